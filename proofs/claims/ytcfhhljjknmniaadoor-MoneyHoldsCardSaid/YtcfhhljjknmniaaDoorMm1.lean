/- money: which numbers are amounts. -/
import Derived.Test.YtcfhhljjknmniaaDoorMm0
set_option linter.unusedVariables false
set_option linter.unusedSimpArgs false
namespace Go.Proofs.YtcfhhljjknmniaaDoor
open Go.RowKit
def bad (most z : Int) : Bool := decide (z < 0) || decide (most < z)
def maxAmt : Int := 1125899906842624
/-- All are amounts. -/
def amts (zs : List Int) : Bool := !zs.any (bad maxAmt)
theorem in1_any (g : Nat) (z most : Int) (w : World) (hg : w.cell? ⟨g, 0, none⟩ = some (.int .i64 most)) :
    Calls Tryd.prog 47 #[.int .i64 z, .pointer (some ⟨g, 0, none⟩)] w fun e w' => e = .returned (.bool (bad most z)) ∧ w = w' := by
  by_cases h : z < 0
  · have e1 : decide (z < 0) = true := decide_eq_true h
    have e2 : bad most z = true := by simp [bad, h]
    rw [e2]
    go_enter Tryd.func47, Tryd.ntmps47
    go_wp2
    go_ret
    exact ⟨rfl, rfl⟩
  · have e1 : decide (z < 0) = false := decide_eq_false h
    have e2 : bad most z = decide (most < z) := by simp [bad, h]
    rw [e2]
    go_enter Tryd.func47, Tryd.ntmps47
    go_wp2
    go_ret
    exact ⟨rfl, rfl⟩
theorem take_any {α : Type} {p : α → Bool} {l : List α} {k : Nat} (hk : k < l.length) : (l.take (k + 1)).any p = ((l.take k).any p || p l[k]) := by
  rw [List.take_add_one, List.getElem?_eq_getElem hk, Option.toList_some, List.any_append, List.any_cons, List.any_nil, Bool.or_false]
theorem any_take {α : Type} {p : α → Bool} {l : List α} {k : Nat} (h : (l.take k).any p = true) : l.any p = true := by
  rw [List.any_eq_true] at h ⊢
  obtain ⟨x, hx, hp⟩ := h
  exact ⟨x, List.mem_of_mem_take hx, hp⟩
set_option maxRecDepth 100000 in
theorem idxFn_any (g : Nat) (most : Int) (A : Option Addr) (n c : Nat) (zs : List Int) (w : World) (hn : zs.length = n) (hm : n ≤ 9223372036854775807) (hr : RdV w A (zs.map numV)) (hg : w.cell? ⟨g, 0, none⟩ = some (.int .i64 most)) :
    Calls Tryd.prog 67 #[.slice A n c, .func (.func 47) #[] #[.pointer (some ⟨g, 0, none⟩)]] w fun e w' => (∃ k : Int, e = .returned (.int .i64 k) ∧ decide (0 ≤ k) = zs.any (bad most)) ∧ w = w' := by
  refine Calls.post fun Φ HΦ => ?_
  have HN := Lib.hid hn
  clear hn
  go_enter Tryd.func67, Tryd.ntmps67
  go_wp2_with fail
  go_loopw [8] (fun t wr => ∃ k : Nat, k ≤ n ∧ t = .int .i64 k ∧ w = wr ∧ (zs.take k).any (bad most) = false) (fun t _ => n - (intOf t).toNat)
  case atStart => exact ⟨0, by omega, rfl, rfl, by simp⟩
  case round =>
    obtain ⟨k, hk, rfl, rfl, hany⟩ := hrel
    by_cases hlt : k < n
    · have hd : decide ((k : Int) < (n : Int)) = true := decide_eq_true (by omega)
      have hd' : decide (k < n) = true := decide_eq_true hlt
      have hkl : k < zs.length := by rw [HN.out]; exact hlt
      obtain ⟨b, o, rfl, hc⟩ := hr.at_ (k := k) (by simpa using hkl)
      rw [List.getElem_map] at hc
      obtain ⟨z, hz⟩ : ∃ z, zs[k] = z := ⟨_, rfl⟩
      have htk := take_any (p := bad most) hkl
      rw [hany, hz, Bool.false_or] at htk
      rw [hz] at hc
      cases hb : bad most z with
      | true =>
        rw [hb] at htk
        have hyes := any_take htk
        clear hany htk hz
        go_wp2_with (first
          | (go_at_call 47; refine (in1_any g z most w hg).mono ?_; rintro e w' ⟨rfl, rfl⟩; rw [hb])
          | fail)
        exact HΦ.out _ _ ⟨⟨k, rfl, by rw [hyes]; exact decide_eq_true (by omega)⟩, rfl⟩
      | false =>
        rw [hb] at htk
        clear hany hz
        go_wp2_with (first
          | (go_at_call 47; refine (in1_any g z most w hg).mono ?_; rintro e w' ⟨rfl, rfl⟩; rw [hb])
          | fail)
        go_roundw
        case rel => exact ⟨k + 1, by omega, by go_num, (by first | rfl | trivial), htk⟩
        case measure => simp [intOf]; omega
    · obtain rfl : k = n := by omega
      have hd : decide ((k : Int) < (k : Int)) = false := decide_eq_false (by omega)
      have hd' : decide (k < k) = false := decide_eq_false (by omega)
      rw [List.take_of_length_le (by rw [HN.out]; exact Nat.le_refl _)] at hany
      go_wp2_with fail
      exact HΦ.out _ _ ⟨⟨-1, rfl, by rw [hany]; rfl⟩, rfl⟩
theorem containsFn_any (g : Nat) (most : Int) (A : Option Addr) (n c : Nat) (zs : List Int) (w : World) (hn : zs.length = n) (hm : n ≤ 9223372036854775807) (hr : RdV w A (zs.map numV)) (hg : w.cell? ⟨g, 0, none⟩ = some (.int .i64 most)) :
    Calls Tryd.prog 46 #[.slice A n c, .func (.func 47) #[] #[.pointer (some ⟨g, 0, none⟩)]] w fun e w' => e = .returned (.bool (zs.any (bad most))) ∧ w = w' := by
  have hi := idxFn_any g most A n c zs w hn hm hr hg
  go_enter Tryd.func46, Tryd.ntmps46
  go_wp2_with (first
    | (go_at_call 67; refine hi.mono ?_; clear hi; rintro e w' ⟨⟨k, rfl, hk⟩, rfl⟩)
    | fail)
  go_ret
  exact ⟨by rw [← hk]; rfl, rfl⟩
theorem in_any (most : Int) (A : Option Addr) (n c : Nat) (zs : List Int) (w : World) (hn : zs.length = n) (hm : n ≤ 9223372036854775807) (hr : RdV w A (zs.map numV)) :
    Calls Tryd.prog 32 #[.int .i64 most, .slice A n c] w fun e w' => e = .returned (.bool (!zs.any (bad most))) ∧ Below w.heap.size w w' := by
  have hL := (Later.refl w).alloc (.cells #[.int .i64 most] 2)
  have hc := containsFn_any w.heap.size most A n c zs _ hn hm (hr.later hL) (((Row.new w 2 #[.int .i64 most]).cell 0).trans rfl)
  clear hr hn
  go_enter Tryd.func32, Tryd.ntmps32
  go_wp2_with (first
    | (go_at_call 46; refine hc.mono ?_; clear hc; rintro e w' ⟨rfl, rfl⟩)
    | fail)
  go_ret
  exact ⟨rfl, hL⟩
theorem check_any (A : Option Addr) (n c : Nat) (zs : List Int) (w : World) (hn : zs.length = n) (hm : n ≤ 9223372036854775807) (hr : RdV w A (zs.map numV)) :
    Calls Tryd.prog 16 #[.slice A n c] w fun e w' => e = .returned (.int .i64 (if amts zs then 0 else 2)) ∧ Below w.heap.size w w' := by
  have hi := in_any maxAmt A n c zs w hn hm hr
  unfold maxAmt at hi
  unfold amts maxAmt
  clear hr hn
  cases hb : zs.any (bad 1125899906842624) with
  | true =>
    rw [hb] at hi
    go_enter Tryd.func16, Tryd.ntmps16
    go_wp2_with (first
      | (go_at_call 32; refine hi.mono ?_; clear hi; rintro e w' ⟨rfl, hL⟩)
      | fail)
    go_ret
    exact ⟨rfl, hL⟩
  | false =>
    rw [hb] at hi
    go_enter Tryd.func16, Tryd.ntmps16
    go_wp2_with (first
      | (go_at_call 32; refine hi.mono ?_; clear hi; rintro e w' ⟨rfl, hL⟩)
      | fail)
    go_ret
    exact ⟨rfl, hL⟩
theorem num5_any (n : Int) (w : World) : Calls Tryd.prog 15 #[.int .i64 n] w fun e w' => e = .returned (.int .i64 n) ∧ w = w' := by
  go_enter Tryd.func15, Tryd.ntmps15
  go_wp2
  go_ret
  exact ⟨rfl, rfl⟩
theorem right5_any (z : Int) (w : World) : Calls Tryd.prog 14 #[.int .i64 z] w fun e w' => e = .returned (.bool (!bad maxAmt z)) ∧ w = w' := by
  unfold maxAmt
  by_cases h : 0 ≤ z
  · have e1 : decide (0 ≤ z) = true := decide_eq_true h
    have e2 : (!bad 1125899906842624 z) = decide (z ≤ 1125899906842624) := by
      by_cases h2 : z ≤ 1125899906842624
      · have : ¬ z < 0 := by omega
        have : ¬ 1125899906842624 < z := by omega
        simp [bad, *]
      · have : 1125899906842624 < z := by omega
        simp [bad, *]
    rw [e2]
    go_enter Tryd.func14, Tryd.ntmps14
    go_wp2
    go_ret
    exact ⟨rfl, rfl⟩
  · have e1 : decide (0 ≤ z) = false := decide_eq_false h
    have e2 : (!bad 1125899906842624 z) = false := by
      have : z < 0 := by omega
      simp [bad, this]
    rw [e2]
    go_enter Tryd.func14, Tryd.ntmps14
    go_wp2
    go_ret
    exact ⟨rfl, rfl⟩
end Go.Proofs.YtcfhhljjknmniaaDoor
