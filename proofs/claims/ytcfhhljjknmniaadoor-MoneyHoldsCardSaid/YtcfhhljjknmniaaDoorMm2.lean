/- money: sums, and what is left of one. -/
import Derived.Test.YtcfhhljjknmniaaDoorMm1b
import Derived.ScopeJumps
set_option linter.unusedVariables false
set_option linter.unusedSimpArgs false
namespace Go.Proofs.YtcfhhljjknmniaaDoor
open Go.RowKit
theorem amts_mem {zs : List Int} (h : amts zs = true) : ∀ z ∈ zs, 0 ≤ z ∧ z ≤ maxAmt := fun z hz => by
  unfold amts at h
  simp only [Bool.not_eq_true'] at h
  rw [List.any_eq_false] at h
  have := h z hz
  unfold bad at this
  simp at this
  omega
theorem take_sum {zs : List Int} {k : Nat} (hk : k < zs.length) : (zs.take (k + 1)).sum = (zs.take k).sum + zs[k] := by
  rw [List.take_add_one, List.getElem?_eq_getElem hk, Option.toList_some, List.sum_append, List.sum_cons, List.sum_nil, Int.add_zero]
theorem sum_nn : ∀ {zs : List Int}, (∀ z ∈ zs, 0 ≤ z) → 0 ≤ zs.sum
  | [], _ => by simp
  | z :: zs, h => by
    have h1 := h z (by simp)
    have h2 := sum_nn (zs := zs) fun y hy => h y (by simp [hy])
    rw [List.sum_cons]; omega
theorem take_sum_le {zs : List Int} (h : ∀ z ∈ zs, 0 ≤ z) (k : Nat) : 0 ≤ (zs.take k).sum ∧ (zs.take k).sum ≤ zs.sum := by
  have h1 : 0 ≤ (zs.take k).sum := sum_nn fun z hz => h z (List.mem_of_mem_take hz)
  have h2 : 0 ≤ (zs.drop k).sum := sum_nn fun z hz => h z (List.mem_of_mem_drop hz)
  have h3 : (zs.take k ++ zs.drop k).sum = zs.sum := by rw [List.take_append_drop]
  rw [List.sum_append] at h3
  omega
def addS (zs : List Int) : Int × Int := if amts zs then (if maxAmt < zs.sum then (0, 150) else (zs.sum, 0)) else (0, 2)
theorem amts_false {zs : List Int} (h : amts zs = false) : addS zs = (0, 2) := by simp [addS, h]
theorem amts_over {zs : List Int} (h : amts zs = true) (h2 : maxAmt < zs.sum) : addS zs = (0, 150) := by simp [addS, h, h2]
theorem amts_sum {zs : List Int} (h : amts zs = true) (h2 : ¬ maxAmt < zs.sum) : addS zs = (zs.sum, 0) := by simp [addS, h, h2]
set_option maxRecDepth 100000 in
theorem add_any (A : Option Addr) (n c : Nat) (zs : List Int) (w : World) (hn : zs.length = n) (hm : n ≤ 9223372036854775807) (hr : RdV w A (zs.map numV)) :
    Calls Tryd.prog 10 #[.slice A n c] w fun e w' => e = .returned (.tuple #[.int .i64 (addS zs).1, .int .i64 (addS zs).2]) ∧ Below w.heap.size w w' := by
  refine Calls.post fun Φ HΦ => ?_
  have hck := check_any A n c zs w hn hm hr
  have HN := Lib.hid hn
  clear hn
  have hall := fun h : amts zs = true => amts_mem h
  go_enter Tryd.func10, Tryd.ntmps10
  go_wp2_with fail
  refine wp_scope_jumps 0 (fun a' w' => Below w.heap.size w w' ∧ ∃ (e : Int) (u0 u1 u2 u4 u5 u6 u7 u8 u9 u10 u11 u12 u13 u14 u15 u16 u17 u18 u19 u20 u21 u22 u23 : Value), a' = { tmps := #[u0, u1, u2, .int .i64 e, u4, u5, u6, u7, u8, u9, u10, u11, u12, u13, u14, u15, u16, u17, u18, u19, u20, u21, u22, u23], defers := [] } ∧ e = (addS zs).2 ∧ (addS zs).1 = 0) (fun _ _ => 0) rfl ?_ ?_
  · cases ha : amts zs with
    | false =>
      rw [ha] at hck
      have hS := amts_false ha
      go_wp2_with (first
        | (go_at_call 16; refine hck.mono ?_; clear hck; rintro e w1 ⟨rfl, hL⟩)
        | fail)
      go_step3
      exact ⟨rfl, hL, _, _, _, _, _, _, _, _, _, _, _, _, _, _, _, _, _, _, _, _, _, _, _, _, rfl, by rw [hS]; exact ⟨rfl, rfl⟩⟩
    | true =>
      rw [ha] at hck
      have hall := hall ha
      have hsl := fun k => take_sum_le (zs := zs) (fun z hz => (hall z hz).1) k
      have HA := Lib.hid ha
      clear ha
      go_wp2_with (first
        | (go_at_call 16; refine hck.mono ?_; clear hck; rintro e w1 ⟨rfl, hL⟩)
        | fail)
      go_loopw [2, 12] (fun t u wr => ∃ k : Nat, k ≤ n ∧ t = .int .i64 (zs.take k).sum ∧ u = .int .i64 k ∧ w1 = wr ∧ (zs.take k).sum ≤ 1125899906842624) (fun _ u _ => n - (intOf u).toNat)
      case atStart => exact ⟨0, by omega, by simp, rfl, rfl, by simp⟩
      case round =>
        obtain ⟨k, hk, rfl, rfl, rfl, hle⟩ := hrel
        by_cases hlt : k < n
        · have hd : decide ((k : Int) < (n : Int)) = true := decide_eq_true (by omega)
          have hd' : decide (k < n) = true := decide_eq_true hlt
          have hkl : k < zs.length := by rw [HN.out]; exact hlt
          obtain ⟨b, o, rfl, hc⟩ := (hr.later hL).at_ (k := k) (by simpa using hkl)
          rw [List.getElem_map] at hc
          have hz := hall zs[k] (List.getElem_mem hkl)
          have hts := take_sum hkl
          have hs1 := hsl (k + 1)
          have hs0 := hsl k
          obtain ⟨z, hze⟩ : ∃ z, zs[k] = z := ⟨_, rfl⟩
          obtain ⟨S, hSe⟩ : ∃ S, (zs.take k).sum = S := ⟨_, rfl⟩
          obtain ⟨T, hTe⟩ : ∃ T, zs.sum = T := ⟨_, rfl⟩
          rw [hze] at hc hz hts
          rw [hSe] at hts hs0 hle ⊢
          unfold maxAmt at hz
          by_cases hov : 1125899906842624 < S + z
          · have e1 : decide (1125899906842624 < S + z) = true := decide_eq_true hov
            have hA := amts_over HA.out (by unfold maxAmt; omega)
            have hwr := IntWalk.i64_in (S + z) (by omega)
            have HTS := Lib.hid hts
            have HSE := Lib.hid hSe
            clear hts hSe hze hTe hs1 hs0 hsl hall
            go_wp2_with fail
            go_step3
            exact ⟨rfl, hL, _, _, _, _, _, _, _, _, _, _, _, _, _, _, _, _, _, _, _, _, _, _, _, _, rfl, by rw [hA]; exact ⟨rfl, rfl⟩⟩
          · have e1 : decide (1125899906842624 < S + z) = false := decide_eq_false hov
            have hwr := IntWalk.i64_in (S + z) (by omega)
            have HTS := Lib.hid hts
            have HSE := Lib.hid hSe
            clear hts hSe hze hTe hs1 hs0 hsl hall
            go_wp2_with fail
            go_roundw
            case rel => exact ⟨k + 1, by omega, by rw [HTS.out], by go_num, (by first | rfl | trivial), by rw [HTS.out]; omega⟩
            case measure => simp [intOf]; omega
        · obtain rfl : k = n := by omega
          have hd : decide ((k : Int) < (k : Int)) = false := decide_eq_false (by omega)
          have hd' : decide (k < k) = false := decide_eq_false (by omega)
          rw [List.take_of_length_le (by rw [HN.out]; exact Nat.le_refl _)] at hle ⊢
          have hA := amts_sum HA.out (by unfold maxAmt; omega)
          rw [hA] at HΦ
          clear hsl hall
          go_wp2_with fail
          exact HΦ.out _ _ ⟨rfl, hL⟩
  · rintro a' w' ⟨hLj, e, u0, u1, u2, u4, u5, u6, u7, u8, u9, u10, u11, u12, u13, u14, u15, u16, u17, u18, u19, u20, u21, u22, u23, rfl, he⟩
    go_wp2_with fail
    obtain ⟨he1, he2⟩ := he
    exact HΦ.out _ _ ⟨by rw [he1, he2]; rfl, hLj⟩
def lessS (a : Int) (zs : List Int) : Int × Int := if amts (a :: zs) then (if a < zs.sum then (0, 151) else (a - zs.sum, 0)) else (0, 2)
theorem less_false {a : Int} {zs : List Int} (h : amts (a :: zs) = false) : lessS a zs = (0, 2) := by simp [lessS, h]
theorem less_under {a : Int} {zs : List Int} (h : amts (a :: zs) = true) (h2 : a < zs.sum) : lessS a zs = (0, 151) := by simp [lessS, h, h2]
theorem less_left {a : Int} {zs : List Int} (h : amts (a :: zs) = true) (h2 : ¬ a < zs.sum) : lessS a zs = (a - zs.sum, 0) := by simp [lessS, h, h2]
set_option maxRecDepth 100000 in
theorem less_any (a : Int) (A : Option Addr) (n c : Nat) (zs : List Int) (w : World) (hn : zs.length = n) (hm : n ≤ 1000000) (hr : RdV w A (zs.map numV)) :
    Calls Tryd.prog 11 #[.int .i64 a, .slice A n c] w fun e w' => e = .returned (.tuple #[.int .i64 (lessS a zs).1, .int .i64 (lessS a zs).2]) ∧ Below w.heap.size w w' := by
  refine Calls.post fun Φ HΦ => ?_
  have hL0 := (Later.refl w).alloc (.cells #[.int .i64 a] 2)
  have hra := hr.later hL0
  have hown0 := own1Z a w w.heap.size (Nat.le_refl _)
  have HN := Lib.hid hn
  clear hn
  go_enter Tryd.func11, Tryd.ntmps11
  go_wp2_with fail
  refine wp_scope_jumps 0 (fun a' w' => Below w.heap.size w w' ∧ ∃ (e : Int) (u0 u1 u2 u3 u4 u6 u7 u8 u9 u10 u11 u12 u13 u14 u15 u16 u17 u18 u19 u20 u21 u22 u23 u24 u25 u26 u27 u28 u29 : Value), a' = { tmps := #[u0, u1, u2, u3, u4, .int .i64 e, u6, u7, u8, u9, u10, u11, u12, u13, u14, u15, u16, u17, u18, u19, u20, u21, u22, u23, u24, u25, u26, u27, u28, u29], defers := [] } ∧ e = (lessS a zs).2 ∧ (lessS a zs).1 = 0) (fun _ _ => 0) rfl ?_ ?_
  · cases ha : amts (a :: zs) with
    | false =>
      have hS := less_false ha
      go_wp2_with (first
        | (refine wpList_buildSl rfl 22 1 _ rfl #[(0, .int .i64 a)] rfl (build1Z a _) ?_)
        | (at_builtin; refine wpList_append_ints rfl (.tmp 10) (.tmp 11) rfl w.heap.size _ [a] rfl hown0 A n c zs rfl HN.out hra (by simp; omega) (by simp only [World.size_alloc]; omega) ?_; intro v3 w3 hown3 hg3 hat3; obtain ⟨A3, c3, rfl, h31, h32, hrd3⟩ := hown3.slice; have hck := check_any A3 _ c3 _ w3 rfl (by simp; rw [HN.out]; omega) hrd3; rw [show [a] ++ zs = a :: zs from rfl, ha] at hck; have hL3 : Later w w3 := hL0.grown hg3 hL0.size (fun j e => (hown0.at_ j e).1))
        | (go_at_call 16; refine hck.mono ?_; clear hck; rintro e w1 ⟨rfl, hL1⟩)
        | fail)
      go_step3
      exact ⟨rfl, (hL3.step hL1), _, _, _, _, _, _, _, _, _, _, _, _, _, _, _, _, _, _, _, _, _, _, _, _, _, _, _, _, _, _, rfl, by rw [hS]; exact ⟨rfl, rfl⟩⟩
    | true =>
      have hall := amts_mem ha
      have hz0 := fun z (hz : z ∈ zs) => hall z (List.mem_cons_of_mem _ hz)
      have haa := hall a (List.mem_cons_self ..)
      have hsl := fun k => take_sum_le (zs := zs) (fun z hz => (hz0 z hz).1) k
      unfold maxAmt at haa
      have HA := Lib.hid ha
      clear hall
      go_wp2_with (first
        | (refine wpList_buildSl rfl 22 1 _ rfl #[(0, .int .i64 a)] rfl (build1Z a _) ?_)
        | (at_builtin; refine wpList_append_ints rfl (.tmp 10) (.tmp 11) rfl w.heap.size _ [a] rfl hown0 A n c zs rfl HN.out hra (by simp; omega) (by simp only [World.size_alloc]; omega) ?_; intro v3 w3 hown3 hg3 hat3; obtain ⟨A3, c3, rfl, h31, h32, hrd3⟩ := hown3.slice; have hck := check_any A3 _ c3 _ w3 rfl (by simp; rw [HN.out]; omega) hrd3; rw [show [a] ++ zs = a :: zs from rfl, HA.out] at hck; clear ha; have hL3 : Later w w3 := hL0.grown hg3 hL0.size (fun j e => (hown0.at_ j e).1))
        | (go_at_call 16; refine hck.mono ?_; clear hck; rintro e w1 ⟨rfl, hL1⟩)
        | fail)
      have hrw := hr.later (hL3.step hL1)
      have hLw := hL3.step hL1
      clear hL3 hL1 hra hown0 hown3 hg3 hat3 hrd3 hL0
      go_loopw [4, 18] (fun t u wr => ∃ k : Nat, k ≤ n ∧ t = .int .i64 (a - (zs.take k).sum) ∧ u = .int .i64 k ∧ w1 = wr ∧ 0 ≤ a - (zs.take k).sum) (fun _ u _ => n - (intOf u).toNat)
      case atStart => exact ⟨0, by omega, by simp, rfl, rfl, by simp; omega⟩
      case round =>
        obtain ⟨k, hk, rfl, rfl, rfl, hle⟩ := hrel
        by_cases hlt : k < n
        · have hd : decide ((k : Int) < (n : Int)) = true := decide_eq_true (by omega)
          have hd' : decide (k < n) = true := decide_eq_true hlt
          have hkl : k < zs.length := by rw [HN.out]; exact hlt
          obtain ⟨b, o, rfl, hc⟩ := hrw.at_ (k := k) (by simpa using hkl)
          rw [List.getElem_map] at hc
          have hz := hz0 zs[k] (List.getElem_mem hkl)
          have hts := take_sum hkl
          have hs1 := hsl (k + 1)
          have hs0 := hsl k
          obtain ⟨z, hze⟩ : ∃ z, zs[k] = z := ⟨_, rfl⟩
          obtain ⟨S, hSe⟩ : ∃ S, (zs.take k).sum = S := ⟨_, rfl⟩
          obtain ⟨T, hTe⟩ : ∃ T, zs.sum = T := ⟨_, rfl⟩
          rw [hze] at hc hz hts
          rw [hSe] at hts hs0 hle ⊢
          unfold maxAmt at hz
          have hwr := IntWalk.i64_in (a - S - z) (by omega)
          by_cases hov : a - S - z < 0
          · have e1 : decide (a - S - z < 0) = true := decide_eq_true hov
            have hA := less_under HA.out (by omega)
            have HTS := Lib.hid hts
            have HSE := Lib.hid hSe
            clear hts hSe hze hTe hs1 hs0 hsl hz0
            go_wp2_with fail
            go_step3
            exact ⟨rfl, hLw, _, _, _, _, _, _, _, _, _, _, _, _, _, _, _, _, _, _, _, _, _, _, _, _, _, _, _, _, _, _, rfl, by rw [hA]; exact ⟨rfl, rfl⟩⟩
          · have e1 : decide (a - S - z < 0) = false := decide_eq_false hov
            have HTS := Lib.hid hts
            have HSE := Lib.hid hSe
            clear hts hSe hze hTe hs1 hs0 hsl hz0
            go_wp2_with fail
            go_roundw
            case rel => exact ⟨k + 1, by omega, by rw [HTS.out]; congr 1; omega, by go_num, (by first | rfl | trivial), by rw [HTS.out]; omega⟩
            case measure => simp [intOf]; omega
        · obtain rfl : k = n := by omega
          have hd : decide ((k : Int) < (k : Int)) = false := decide_eq_false (by omega)
          have hd' : decide (k < k) = false := decide_eq_false (by omega)
          rw [List.take_of_length_le (by rw [HN.out]; exact Nat.le_refl _)] at hle ⊢
          have hA := less_left HA.out (by omega)
          rw [hA] at HΦ
          clear hsl hz0
          go_wp2_with fail
          exact HΦ.out _ _ ⟨rfl, hLw⟩
  · rintro a' w' ⟨hLj, e, u0, u1, u2, u3, u4, u6, u7, u8, u9, u10, u11, u12, u13, u14, u15, u16, u17, u18, u19, u20, u21, u22, u23, u24, u25, u26, u27, u28, u29, rfl, he⟩
    go_wp2_with fail
    obtain ⟨he1, he2⟩ := he
    exact HΦ.out _ _ ⟨by rw [he1, he2]; rfl, hLj⟩
set_option maxRecDepth 100000 in
theorem all5_any (A : Option Addr) (n c : Nat) (zs : List Int) (w : World) (hn : zs.length = n) (hm : n ≤ 9223372036854775807) (hr : RdV w A (zs.map numV)) :
    Calls Tryd.prog 31 #[.slice A n c] w fun e w' => e = .returned (.bool (amts zs)) ∧ w = w' := by
  refine Calls.post fun Φ HΦ => ?_
  have HN := Lib.hid hn
  clear hn
  go_enter Tryd.func31, Tryd.ntmps31
  go_wp2_with fail
  go_loopw [3] (fun t wr => ∃ k : Nat, k ≤ n ∧ t = .int .i64 k ∧ w = wr ∧ (zs.take k).any (bad maxAmt) = false) (fun t _ => n - (intOf t).toNat)
  case atStart => exact ⟨0, by omega, rfl, rfl, by simp⟩
  case round =>
    obtain ⟨k, hk, rfl, rfl, hany⟩ := hrel
    by_cases hlt : k < n
    · have hd : decide ((k : Int) < (n : Int)) = true := decide_eq_true (by omega)
      have hd' : decide (k < n) = true := decide_eq_true hlt
      have hkl : k < zs.length := by rw [HN.out]; exact hlt
      obtain ⟨b, o, rfl, hc⟩ := hr.at_ (k := k) (by simpa using hkl)
      rw [List.getElem_map] at hc
      obtain ⟨z, hz⟩ : ∃ z, zs[k] = z := ⟨_, rfl⟩
      have htk := take_any (p := bad maxAmt) hkl
      rw [hany, hz, Bool.false_or] at htk
      rw [hz] at hc
      cases hb : bad maxAmt z with
      | true =>
        rw [hb] at htk
        have hyes : amts zs = false := by unfold amts; rw [any_take htk]; rfl
        clear hany htk hz
        go_wp2_with (first
          | (go_at_call 14; refine (right5_any z w).mono ?_; rintro e w' ⟨rfl, rfl⟩; rw [hb])
          | fail)
        exact HΦ.out _ _ ⟨by rw [hyes]; rfl, rfl⟩
      | false =>
        rw [hb] at htk
        clear hany hz
        go_wp2_with (first
          | (go_at_call 14; refine (right5_any z w).mono ?_; rintro e w' ⟨rfl, rfl⟩; rw [hb])
          | fail)
        go_roundw
        case rel => exact ⟨k + 1, by omega, by go_num, (by first | rfl | trivial), htk⟩
        case measure => simp [intOf]; omega
    · obtain rfl : k = n := by omega
      have hd : decide ((k : Int) < (k : Int)) = false := decide_eq_false (by omega)
      have hd' : decide (k < k) = false := decide_eq_false (by omega)
      rw [List.take_of_length_le (by rw [HN.out]; exact Nat.le_refl _)] at hany
      have hyes : amts zs = true := by unfold amts; rw [hany]; rfl
      go_wp2_with fail
      exact HΦ.out _ _ ⟨by rw [hyes]; rfl, rfl⟩
set_option maxRecDepth 100000 in
theorem refAdd_any (A : Option Addr) (n c : Nat) (zs : List Int) (w : World) (hn : zs.length = n) (hm : n ≤ 9223372036854775807) (hr : RdV w A (zs.map numV)) :
    Calls Tryd.prog 12 #[.slice A n c] w fun e w' => e = .returned (.tuple #[.int .i64 (addS zs).1, .int .i64 (addS zs).2]) ∧ w = w' := by
  refine Calls.post fun Φ HΦ => ?_
  have hall5 := all5_any A n c zs w hn hm hr
  have HN := Lib.hid hn
  clear hn
  go_enter Tryd.func12, Tryd.ntmps12
  cases ha : amts zs with
  | false =>
    rw [ha] at hall5
    rw [amts_false ha] at HΦ
    go_wp2_with (first
      | (go_at_call 31; refine hall5.mono ?_; clear hall5; rintro e w1 ⟨rfl, rfl⟩)
      | fail)
    exact HΦ.out _ _ ⟨rfl, rfl⟩
  | true =>
    rw [ha] at hall5
    have hall := amts_mem ha
    have hsl := fun k => take_sum_le (zs := zs) (fun z hz => (hall z hz).1) k
    have HA := Lib.hid ha
    clear ha
    go_wp2_with (first
      | (go_at_call 31; refine hall5.mono ?_; clear hall5; rintro e w1 ⟨rfl, rfl⟩)
      | fail)
    go_loopw [4, 5] (fun t u wr => ∃ k : Nat, k ≤ n ∧ t = .int .i64 (zs.take k).sum ∧ u = .int .i64 k ∧ w = wr ∧ (zs.take k).sum ≤ 1125899906842624) (fun _ u _ => n - (intOf u).toNat)
    case atStart => exact ⟨0, by omega, by simp, rfl, rfl, by simp⟩
    case round =>
      obtain ⟨k, hk, rfl, rfl, rfl, hle⟩ := hrel
      by_cases hlt : k < n
      · have hd : decide ((k : Int) < (n : Int)) = true := decide_eq_true (by omega)
        have hd' : decide (k < n) = true := decide_eq_true hlt
        have hkl : k < zs.length := by rw [HN.out]; exact hlt
        obtain ⟨b, o, rfl, hc⟩ := hr.at_ (k := k) (by simpa using hkl)
        rw [List.getElem_map] at hc
        have hz := hall zs[k] (List.getElem_mem hkl)
        have hts := take_sum hkl
        have hs1 := hsl (k + 1)
        have hs0 := hsl k
        obtain ⟨z, hze⟩ : ∃ z, zs[k] = z := ⟨_, rfl⟩
        obtain ⟨S, hSe⟩ : ∃ S, (zs.take k).sum = S := ⟨_, rfl⟩
        obtain ⟨T, hTe⟩ : ∃ T, zs.sum = T := ⟨_, rfl⟩
        rw [hze] at hc hz hts
        rw [hSe] at hts hs0 hle ⊢
        unfold maxAmt at hz
        have hwr := IntWalk.i64_in (S + z) (by omega)
        by_cases hov : 1125899906842624 < S + z
        · have e1 : decide (1125899906842624 < S + z) = true := decide_eq_true hov
          have hA := amts_over HA.out (by unfold maxAmt; omega)
          rw [hA] at HΦ
          clear hts hSe hze hTe hs1 hs0 hsl hall
          go_wp2_with fail
          exact HΦ.out _ _ ⟨rfl, rfl⟩
        · have e1 : decide (1125899906842624 < S + z) = false := decide_eq_false hov
          have HTS := Lib.hid hts
          clear hts hSe hze hTe hs1 hs0 hsl hall
          go_wp2_with fail
          go_roundw
          case rel => exact ⟨k + 1, by omega, by rw [HTS.out], by go_num, (by first | rfl | trivial), by rw [HTS.out]; omega⟩
          case measure => simp [intOf]; omega
      · obtain rfl : k = n := by omega
        have hd : decide ((k : Int) < (k : Int)) = false := decide_eq_false (by omega)
        have hd' : decide (k < k) = false := decide_eq_false (by omega)
        rw [List.take_of_length_le (by rw [HN.out]; exact Nat.le_refl _)] at hle ⊢
        have hA := amts_sum HA.out (by unfold maxAmt; omega)
        rw [hA] at HΦ
        clear hsl hall
        go_wp2_with fail
        exact HΦ.out _ _ ⟨rfl, rfl⟩
theorem amts_cons (a : Int) (zs : List Int) : amts (a :: zs) = (!bad maxAmt a && amts zs) := by
  unfold amts
  rw [List.any_cons]
  cases bad maxAmt a <;> rfl
set_option maxRecDepth 100000 in
theorem refLess_any (a : Int) (A : Option Addr) (n c : Nat) (zs : List Int) (w : World) (hn : zs.length = n) (hm : n ≤ 9223372036854775807) (hr : RdV w A (zs.map numV)) :
    Calls Tryd.prog 13 #[.int .i64 a, .slice A n c] w fun e w' => e = .returned (.tuple #[.int .i64 (lessS a zs).1, .int .i64 (lessS a zs).2]) ∧ w = w' := by
  refine Calls.post fun Φ HΦ => ?_
  have hall5 := all5_any A n c zs w hn hm hr
  have hri := right5_any a w
  have HN := Lib.hid hn
  clear hn
  go_enter Tryd.func13, Tryd.ntmps13
  cases ha : amts (a :: zs) with
  | false =>
    rw [less_false ha] at HΦ
    rw [amts_cons] at ha
    cases hb : bad maxAmt a with
    | true =>
      rw [hb] at hri
      go_wp2_with (first
        | (go_at_call 14; refine hri.mono ?_; clear hri; rintro e w1 ⟨rfl, rfl⟩)
        | fail)
      exact HΦ.out _ _ ⟨rfl, rfl⟩
    | false =>
      rw [hb] at hri ha
      have hb2 : amts zs = false := by simpa using ha
      rw [hb2] at hall5
      go_wp2_with (first
        | (go_at_call 14; refine hri.mono ?_; clear hri; rintro e w1 ⟨rfl, rfl⟩)
        | (go_at_call 31; refine hall5.mono ?_; clear hall5; rintro e w1 ⟨rfl, rfl⟩)
        | fail)
      exact HΦ.out _ _ ⟨rfl, rfl⟩
  | true =>
    have hall := amts_mem ha
    have hz0 := fun z (hz : z ∈ zs) => hall z (List.mem_cons_of_mem _ hz)
    have haa := hall a (List.mem_cons_self ..)
    have hsl := fun k => take_sum_le (zs := zs) (fun z hz => (hz0 z hz).1) k
    unfold maxAmt at haa
    have HA := Lib.hid ha
    rw [amts_cons] at ha
    simp only [Bool.and_eq_true, Bool.not_eq_true'] at ha
    rw [ha.1] at hri
    rw [ha.2] at hall5
    clear hall ha
    go_wp2_with (first
      | (go_at_call 14; refine hri.mono ?_; clear hri; rintro e w1 ⟨rfl, rfl⟩)
      | (go_at_call 31; refine hall5.mono ?_; clear hall5; rintro e w1 ⟨rfl, rfl⟩)
      | fail)
    go_loopw [0, 6] (fun t u wr => ∃ k : Nat, k ≤ n ∧ t = .int .i64 (a - (zs.take k).sum) ∧ u = .int .i64 k ∧ w = wr ∧ 0 ≤ a - (zs.take k).sum) (fun _ u _ => n - (intOf u).toNat)
    case atStart => exact ⟨0, by omega, by simp, rfl, rfl, by simp; omega⟩
    case round =>
      obtain ⟨k, hk, rfl, rfl, rfl, hle⟩ := hrel
      by_cases hlt : k < n
      · have hd : decide ((k : Int) < (n : Int)) = true := decide_eq_true (by omega)
        have hd' : decide (k < n) = true := decide_eq_true hlt
        have hkl : k < zs.length := by rw [HN.out]; exact hlt
        obtain ⟨b, o, rfl, hc⟩ := hr.at_ (k := k) (by simpa using hkl)
        rw [List.getElem_map] at hc
        have hz := hz0 zs[k] (List.getElem_mem hkl)
        have hts := take_sum hkl
        have hs1 := hsl (k + 1)
        have hs0 := hsl k
        obtain ⟨z, hze⟩ : ∃ z, zs[k] = z := ⟨_, rfl⟩
        obtain ⟨S, hSe⟩ : ∃ S, (zs.take k).sum = S := ⟨_, rfl⟩
        obtain ⟨T, hTe⟩ : ∃ T, zs.sum = T := ⟨_, rfl⟩
        rw [hze] at hc hz hts
        rw [hSe] at hts hs0 hle ⊢
        unfold maxAmt at hz
        have hwr := IntWalk.i64_in (a - S - z) (by omega)
        by_cases hov : a - S < z
        · have e1 : decide (a - S < z) = true := decide_eq_true hov
          have hA := less_under HA.out (by omega)
          rw [hA] at HΦ
          clear hts hSe hze hTe hs1 hs0 hsl hz0
          go_wp2_with fail
          exact HΦ.out _ _ ⟨rfl, rfl⟩
        · have e1 : decide (a - S < z) = false := decide_eq_false hov
          have HTS := Lib.hid hts
          clear hts hSe hze hTe hs1 hs0 hsl hz0
          go_wp2_with fail
          go_roundw
          case rel => exact ⟨k + 1, by omega, by rw [HTS.out]; congr 1; omega, by go_num, (by first | rfl | trivial), by rw [HTS.out]; omega⟩
          case measure => simp [intOf]; omega
      · obtain rfl : k = n := by omega
        have hd : decide ((k : Int) < (k : Int)) = false := decide_eq_false (by omega)
        have hd' : decide (k < k) = false := decide_eq_false (by omega)
        rw [List.take_of_length_le (by rw [HN.out]; exact Nat.le_refl _)] at hle ⊢
        have hA := less_left HA.out (by omega)
        rw [hA] at HΦ
        clear hsl hz0
        go_wp2_with fail
        exact HΦ.out _ _ ⟨rfl, rfl⟩
end Go.Proofs.YtcfhhljjknmniaaDoor
