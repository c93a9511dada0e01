/- Walks: the document's Truth, Text, first number. -/
import Derived.Test.YtmipaacobioakaaWr15
set_option linter.unusedVariables false
set_option linter.unusedSimpArgs false
namespace Go.Proofs.Ytmipaacobioakaa
open Go.RowKit
theorem refTruth_any (b : Bool) (w : World) : Calls Try.prog 57 #[.bool b] w fun e w' => ∃ v', e = .returned v' ∧ Own 5 w' w.heap.size v' [if b then 1 else 0] ∧ Later w w' := by
  cases b
  · go_enter Try.func57, Try.ntmps57
    go_wp2
    go_ret
    exact ⟨_, rfl, own1 w _ 0 rfl, (Later.refl w).alloc _⟩
  · go_enter Try.func57, Try.ntmps57
    go_wp2
    go_ret
    exact ⟨_, rfl, own1 w _ 1 rfl, (Later.refl w).alloc _⟩
set_option maxRecDepth 100000 in
theorem refText_any (s : List UInt8) (w : World) (hs : s.length ≤ 100000000) : Calls Try.prog 58 #[.string ⟨s.toArray⟩] w fun e w' => ∃ v', e = .returned v' ∧ Own 5 w' w.heap.size v' (Wr.bytes s.length ++ s) ∧ Later w w' := by
  have hnum := refNumber_any s.length w (by omega)
  have hbl := Wr.bytes_le s.length
  have hsz : (⟨s.toArray⟩ : ByteArray).size = s.length := by simp [ByteArray.size]
  generalize hlen : s.length = n at *
  go_enter Try.func58, Try.ntmps58
  go_wp2_with (first
    | (go_at_call 15; refine hnum.mono ?_; clear hnum; rintro e w1 ⟨v1, rfl, hown1, hL1⟩; obtain ⟨A1, n1, c1, rfl⟩ := hown1.shape)
    | (at_builtin; refine wpList_append_str rfl (.tmp 5) (.tmp 6) 22 9 rfl w.heap.size 5 Try.underlying22 Try.underlying9 byteInfo _ (Wr.bytes n) rfl hown1 s rfl (by omega) hL1.size ?_; intro v4 w4 hown4 hg4 hat4; obtain ⟨A4, n4, c4, rfl⟩ := hown4.shape)
    | fail)
  go_ret
  exact ⟨_, rfl, hown4, hL1.grown hg4 hL1.size (fun q e => (hown1.at_ q e).1)⟩
theorem Wr.many_cases (x : UInt8) : (Wr.many x = 0 ∧ x.toNat < 253) ∨ (Wr.many x = 2 ∧ x.toNat = 253) ∨ (Wr.many x = 4 ∧ x.toNat = 254) ∨ (Wr.many x = 8 ∧ x.toNat = 255) := by
  have h : ∀ n : Fin 256, (Wr.many (UInt8.ofNat n.val) = 0 ∧ (UInt8.ofNat n.val).toNat < 253) ∨ (Wr.many (UInt8.ofNat n.val) = 2 ∧ (UInt8.ofNat n.val).toNat = 253) ∨ (Wr.many (UInt8.ofNat n.val) = 4 ∧ (UInt8.ofNat n.val).toNat = 254) ∨ (Wr.many (UInt8.ofNat n.val) = 8 ∧ (UInt8.ofNat n.val).toNat = 255) := by decide +kernel
  have := h ⟨x.toNat, x.toNat_lt⟩
  simpa using this
set_option maxRecDepth 100000 in
set_option maxHeartbeats 2000000 in
theorem refFirst_any (A : Option Addr) (n c : Nat) (l : List UInt8) (w : World) (hn : l.length = n) (hm : n ≤ 9223372036854775000) (hr : Rd w A l) :
    Calls Try.prog 62 #[.slice A n c] w fun e w' => e = .returned (.tuple #[.int .i64 ((Wr.first l).1 : Int), .int .i64 (Wr.first l).2]) ∧ Later w w' := by
  rcases l with _ | ⟨x, r⟩
  · simp at hn
    subst hn
    go_enter Try.func62, Try.ntmps62
    go_wp2_with fail
    go_ret2
    exact ⟨rfl, Later.refl _⟩
  have hn0 : 0 < n := by rw [← hn]; simp
  obtain ⟨b, o, rfl, hc0⟩ := hr.at_ (k := 0) (by simp)
  rw [Nat.add_zero] at hc0
  have hd : ((n : Int) == 0) = false := by simp; omega
  have hd0 : decide ((0 : Int) < (n : Int)) = true := decide_eq_true (by omega)
  have hd0' : decide (0 < n) = true := decide_eq_true hn0
  obtain ⟨m, hm0⟩ : ∃ m, Wr.many x = m := ⟨_, rfl⟩
  have hmc := Wr.many_cases x
  rw [hm0] at hmc
  have HM := Lib.hid hm0
  clear hm0
  by_cases hlt : x.toNat < 253
  · have hd1 : decide ((x.toNat : Int) < 253) = true := decide_eq_true (by omega)
    have hfst : Wr.first (x :: r) = (x.toNat, 1) := by
      have : m = 0 := by omega
      simp [Wr.first, HM.out, this]
    rw [hfst]
    clear hfst hmc
    go_enter Try.func62, Try.ntmps62
    go_wp2_with fail
    go_ret2
    exact ⟨rfl, Later.refl _⟩
  have hd1 : decide ((x.toNat : Int) < 253) = false := decide_eq_false (by omega)
  have hm248 : m = 2 ∨ m = 4 ∨ m = 8 := by omega
  have hmz : m ≠ 0 := by omega
  have HR := Lib.hid hr
  have HN := Lib.hid hn
  have hnum := fun (v : Nat) (hv : v < 9223372036854775808) W => refNumber_any v W hv
  have HNUM := Lib.hid hnum
  clear hnum hr hn
  have H248 := Lib.hid hm248
  go_enter Try.func62, Try.ntmps62
  go_upto_region 5 with fail
  rcases H248.out with h | h | h
  · have e4 : ((x.toNat : Int) == 254) = false := by simp; omega
    have e8 : ((x.toNat : Int) == 255) = false := by simp; omega
    clear hmc hlt hm248
    go_upto_region 10 with fail
    rw [show Value.int .i64 2 = .int .i64 (m : Int) by rw [h]; rfl]
    have hm8 : m ≤ 8 := by omega
    have hmp : 2 ≤ m := by omega
    clear h e4 e8
    by_cases hlen : n < 1 + m
    · have hd2 : decide ((n : Int) < 1 + (m : Int)) = true := decide_eq_true (by omega)
      have hfst : Wr.first (x :: r) = (0, 0) := by
        have h1 := HN.out
        rw [List.length_cons] at h1
        simp only [Wr.first]
        rw [HM.out, if_neg hmz, if_pos (by omega)]
      have HF := Lib.hid hfst
      clear hfst
      go_wp2_with fail
      go_ret2
      exact ⟨by rw [HF.out]; rfl, Later.refl _⟩
    · have hd2 : decide ((n : Int) < 1 + (m : Int)) = false := decide_eq_false (by omega)
      have hrl : m ≤ r.length := by have h1 := HN.out; rw [List.length_cons] at h1; omega
      go_wp2_with fail
      go_loopw [5, 6] (fun u t wr => ∃ i : Nat, i ≤ m ∧ t = .int .i64 ((i : Int) + 1) ∧ wr = w ∧ u = .int .u64 (Wr.val (r.take i) : Int)) (fun u t _ => m + 1 - (intOf t).toNat)
      case atStart => exact ⟨0, by omega, rfl, rfl, rfl⟩
      case round =>
        obtain ⟨i, hi, rfl, rfl, rfl⟩ := hrel
        have hvl := Wr.val_lt (r.take i)
        rw [List.length_take, Nat.min_eq_left (by omega)] at hvl
        by_cases hlti : i < m
        · have hdl : decide ((i : Int) + 1 ≤ (m : Int)) = true := decide_eq_true (by omega)
          obtain ⟨b', o', e', hcc⟩ := HR.out (by simp)
          cases e'
          have hcell := hcc (i + 1) (by simp; omega)
          rw [List.getElem_cons_succ] at hcell
          have hnx : r.take (i + 1) = r.take i ++ [r[i]'(by omega)] := List.take_succ_eq_append_getElem (by omega)
          have hv1 : Wr.val (r.take (i + 1)) = 256 * Wr.val (r.take i) + (r[i]'(by omega)).toNat := by rw [hnx, Wr.val_snoc]
          have hcx := (r[i]'(by omega : i < r.length)).toNat_lt
          generalize (r[i]'(by omega : i < r.length)) = cx at *
          generalize hV : Wr.val (r.take i) = V at *
          have hvl7 : V < 256 ^ 7 := Nat.lt_of_lt_of_le hvl (Nat.pow_le_pow_right (by decide) (by omega))
          have HV1 := Lib.hid hv1
          have HVL := Lib.hid hvl
          have hbd : decide ((i : Int) + 1 < (n : Int)) = true := decide_eq_true (by omega)
          clear hv1 hnx hvl hcc
          go_wp2_with fail
          go_roundw
          case rel => exact ⟨i + 1, by omega, by go_num, trivial, by rw [HV1.out]; push_cast; rfl⟩
          case measure => simp [intOf]; omega
        · obtain rfl : i = m := by omega
          have hdl : decide ((i : Int) + 1 ≤ (i : Int)) = false := decide_eq_false (by omega)
          have hnb := Wr.bytes_le (Wr.val (r.take i))
          have hfst : (Wr.first (x :: r)) = if 4611686018427387904 < Wr.val (r.take i) ∨ (Wr.bytes (Wr.val (r.take i))).length ≠ 1 + i then (0, -1) else (Wr.val (r.take i), 1 + (i : Int)) := by
            simp only [Wr.first]
            rw [HM.out, if_neg hmz, if_neg (by omega)]
          have HF := Lib.hid hfst
          clear hfst
          have hV8 : Wr.val (r.take i) < 18446744073709551616 := Nat.lt_of_lt_of_le hvl (Nat.pow_le_pow_right (by decide) hm8)
          generalize Wr.val (r.take i) = V at *
          clear hvl
          by_cases h62 : 4611686018427387904 < V
          · have hd6 : decide ((4611686018427387904 : Int) < (V : Int)) = true := decide_eq_true (by omega)
            rw [if_pos (.inl h62)] at HF
            go_wp2_with fail
            go_ret2
            exact ⟨by rw [HF.out]; rfl, Later.refl _⟩
          · have hd6 : decide ((4611686018427387904 : Int) < (V : Int)) = false := decide_eq_false (by omega)
            have hnum := HNUM.out V (by omega) wr
            generalize hbl : (Wr.bytes V).length = bl at *
            have HBL := Lib.hid hbl
            clear hbl
            by_cases hbe : bl = 1 + i
            · have hd7 : ((bl : Int) == 1 + (i : Int)) = true := by simp; omega
              rw [if_neg (fun h => h.elim h62 (fun h => h hbe))] at HF
              go_wp2_with (first
                | (go_at_call 15; refine hnum.mono ?_; clear hnum; rintro e w5 ⟨v5, rfl, hown5, hL5⟩; obtain ⟨A5, c5, rfl, _, _, _⟩ := hown5.slice; rw [HBL.out])
                | fail)
              go_ret2
              exact ⟨by rw [HF.out]; rfl, hL5⟩
            · have hd7 : ((bl : Int) == 1 + (i : Int)) = false := by simp; omega
              rw [if_pos (.inr hbe)] at HF
              go_wp2_with (first
                | (go_at_call 15; refine hnum.mono ?_; clear hnum; rintro e w5 ⟨v5, rfl, hown5, hL5⟩; obtain ⟨A5, c5, rfl, _, _, _⟩ := hown5.slice; rw [HBL.out])
                | fail)
              go_ret2
              exact ⟨by rw [HF.out]; rfl, hL5⟩
  · have e4 : ((x.toNat : Int) == 254) = true := by simp; omega
    have e8 : ((x.toNat : Int) == 255) = false := by simp; omega
    clear hmc hlt hm248
    go_upto_region 10 with fail
    rw [show Value.int .i64 4 = .int .i64 (m : Int) by rw [h]; rfl]
    have hm8 : m ≤ 8 := by omega
    have hmp : 2 ≤ m := by omega
    clear h e4 e8
    by_cases hlen : n < 1 + m
    · have hd2 : decide ((n : Int) < 1 + (m : Int)) = true := decide_eq_true (by omega)
      have hfst : Wr.first (x :: r) = (0, 0) := by
        have h1 := HN.out
        rw [List.length_cons] at h1
        simp only [Wr.first]
        rw [HM.out, if_neg hmz, if_pos (by omega)]
      have HF := Lib.hid hfst
      clear hfst
      go_wp2_with fail
      go_ret2
      exact ⟨by rw [HF.out]; rfl, Later.refl _⟩
    · have hd2 : decide ((n : Int) < 1 + (m : Int)) = false := decide_eq_false (by omega)
      have hrl : m ≤ r.length := by have h1 := HN.out; rw [List.length_cons] at h1; omega
      go_wp2_with fail
      go_loopw [5, 6] (fun u t wr => ∃ i : Nat, i ≤ m ∧ t = .int .i64 ((i : Int) + 1) ∧ wr = w ∧ u = .int .u64 (Wr.val (r.take i) : Int)) (fun u t _ => m + 1 - (intOf t).toNat)
      case atStart => exact ⟨0, by omega, rfl, rfl, rfl⟩
      case round =>
        obtain ⟨i, hi, rfl, rfl, rfl⟩ := hrel
        have hvl := Wr.val_lt (r.take i)
        rw [List.length_take, Nat.min_eq_left (by omega)] at hvl
        by_cases hlti : i < m
        · have hdl : decide ((i : Int) + 1 ≤ (m : Int)) = true := decide_eq_true (by omega)
          obtain ⟨b', o', e', hcc⟩ := HR.out (by simp)
          cases e'
          have hcell := hcc (i + 1) (by simp; omega)
          rw [List.getElem_cons_succ] at hcell
          have hnx : r.take (i + 1) = r.take i ++ [r[i]'(by omega)] := List.take_succ_eq_append_getElem (by omega)
          have hv1 : Wr.val (r.take (i + 1)) = 256 * Wr.val (r.take i) + (r[i]'(by omega)).toNat := by rw [hnx, Wr.val_snoc]
          have hcx := (r[i]'(by omega : i < r.length)).toNat_lt
          generalize (r[i]'(by omega : i < r.length)) = cx at *
          generalize hV : Wr.val (r.take i) = V at *
          have hvl7 : V < 256 ^ 7 := Nat.lt_of_lt_of_le hvl (Nat.pow_le_pow_right (by decide) (by omega))
          have HV1 := Lib.hid hv1
          have HVL := Lib.hid hvl
          have hbd : decide ((i : Int) + 1 < (n : Int)) = true := decide_eq_true (by omega)
          clear hv1 hnx hvl hcc
          go_wp2_with fail
          go_roundw
          case rel => exact ⟨i + 1, by omega, by go_num, trivial, by rw [HV1.out]; push_cast; rfl⟩
          case measure => simp [intOf]; omega
        · obtain rfl : i = m := by omega
          have hdl : decide ((i : Int) + 1 ≤ (i : Int)) = false := decide_eq_false (by omega)
          have hnb := Wr.bytes_le (Wr.val (r.take i))
          have hfst : (Wr.first (x :: r)) = if 4611686018427387904 < Wr.val (r.take i) ∨ (Wr.bytes (Wr.val (r.take i))).length ≠ 1 + i then (0, -1) else (Wr.val (r.take i), 1 + (i : Int)) := by
            simp only [Wr.first]
            rw [HM.out, if_neg hmz, if_neg (by omega)]
          have HF := Lib.hid hfst
          clear hfst
          have hV8 : Wr.val (r.take i) < 18446744073709551616 := Nat.lt_of_lt_of_le hvl (Nat.pow_le_pow_right (by decide) hm8)
          generalize Wr.val (r.take i) = V at *
          clear hvl
          by_cases h62 : 4611686018427387904 < V
          · have hd6 : decide ((4611686018427387904 : Int) < (V : Int)) = true := decide_eq_true (by omega)
            rw [if_pos (.inl h62)] at HF
            go_wp2_with fail
            go_ret2
            exact ⟨by rw [HF.out]; rfl, Later.refl _⟩
          · have hd6 : decide ((4611686018427387904 : Int) < (V : Int)) = false := decide_eq_false (by omega)
            have hnum := HNUM.out V (by omega) wr
            generalize hbl : (Wr.bytes V).length = bl at *
            have HBL := Lib.hid hbl
            clear hbl
            by_cases hbe : bl = 1 + i
            · have hd7 : ((bl : Int) == 1 + (i : Int)) = true := by simp; omega
              rw [if_neg (fun h => h.elim h62 (fun h => h hbe))] at HF
              go_wp2_with (first
                | (go_at_call 15; refine hnum.mono ?_; clear hnum; rintro e w5 ⟨v5, rfl, hown5, hL5⟩; obtain ⟨A5, c5, rfl, _, _, _⟩ := hown5.slice; rw [HBL.out])
                | fail)
              go_ret2
              exact ⟨by rw [HF.out]; rfl, hL5⟩
            · have hd7 : ((bl : Int) == 1 + (i : Int)) = false := by simp; omega
              rw [if_pos (.inr hbe)] at HF
              go_wp2_with (first
                | (go_at_call 15; refine hnum.mono ?_; clear hnum; rintro e w5 ⟨v5, rfl, hown5, hL5⟩; obtain ⟨A5, c5, rfl, _, _, _⟩ := hown5.slice; rw [HBL.out])
                | fail)
              go_ret2
              exact ⟨by rw [HF.out]; rfl, hL5⟩
  · have e4 : ((x.toNat : Int) == 254) = false := by simp; omega
    have e8 : ((x.toNat : Int) == 255) = true := by simp; omega
    clear hmc hlt hm248
    go_upto_region 10 with fail
    rw [show Value.int .i64 8 = .int .i64 (m : Int) by rw [h]; rfl]
    have hm8 : m ≤ 8 := by omega
    have hmp : 2 ≤ m := by omega
    clear h e4 e8
    by_cases hlen : n < 1 + m
    · have hd2 : decide ((n : Int) < 1 + (m : Int)) = true := decide_eq_true (by omega)
      have hfst : Wr.first (x :: r) = (0, 0) := by
        have h1 := HN.out
        rw [List.length_cons] at h1
        simp only [Wr.first]
        rw [HM.out, if_neg hmz, if_pos (by omega)]
      have HF := Lib.hid hfst
      clear hfst
      go_wp2_with fail
      go_ret2
      exact ⟨by rw [HF.out]; rfl, Later.refl _⟩
    · have hd2 : decide ((n : Int) < 1 + (m : Int)) = false := decide_eq_false (by omega)
      have hrl : m ≤ r.length := by have h1 := HN.out; rw [List.length_cons] at h1; omega
      go_wp2_with fail
      go_loopw [5, 6] (fun u t wr => ∃ i : Nat, i ≤ m ∧ t = .int .i64 ((i : Int) + 1) ∧ wr = w ∧ u = .int .u64 (Wr.val (r.take i) : Int)) (fun u t _ => m + 1 - (intOf t).toNat)
      case atStart => exact ⟨0, by omega, rfl, rfl, rfl⟩
      case round =>
        obtain ⟨i, hi, rfl, rfl, rfl⟩ := hrel
        have hvl := Wr.val_lt (r.take i)
        rw [List.length_take, Nat.min_eq_left (by omega)] at hvl
        by_cases hlti : i < m
        · have hdl : decide ((i : Int) + 1 ≤ (m : Int)) = true := decide_eq_true (by omega)
          obtain ⟨b', o', e', hcc⟩ := HR.out (by simp)
          cases e'
          have hcell := hcc (i + 1) (by simp; omega)
          rw [List.getElem_cons_succ] at hcell
          have hnx : r.take (i + 1) = r.take i ++ [r[i]'(by omega)] := List.take_succ_eq_append_getElem (by omega)
          have hv1 : Wr.val (r.take (i + 1)) = 256 * Wr.val (r.take i) + (r[i]'(by omega)).toNat := by rw [hnx, Wr.val_snoc]
          have hcx := (r[i]'(by omega : i < r.length)).toNat_lt
          generalize (r[i]'(by omega : i < r.length)) = cx at *
          generalize hV : Wr.val (r.take i) = V at *
          have hvl7 : V < 256 ^ 7 := Nat.lt_of_lt_of_le hvl (Nat.pow_le_pow_right (by decide) (by omega))
          have HV1 := Lib.hid hv1
          have HVL := Lib.hid hvl
          have hbd : decide ((i : Int) + 1 < (n : Int)) = true := decide_eq_true (by omega)
          clear hv1 hnx hvl hcc
          go_wp2_with fail
          go_roundw
          case rel => exact ⟨i + 1, by omega, by go_num, trivial, by rw [HV1.out]; push_cast; rfl⟩
          case measure => simp [intOf]; omega
        · obtain rfl : i = m := by omega
          have hdl : decide ((i : Int) + 1 ≤ (i : Int)) = false := decide_eq_false (by omega)
          have hnb := Wr.bytes_le (Wr.val (r.take i))
          have hfst : (Wr.first (x :: r)) = if 4611686018427387904 < Wr.val (r.take i) ∨ (Wr.bytes (Wr.val (r.take i))).length ≠ 1 + i then (0, -1) else (Wr.val (r.take i), 1 + (i : Int)) := by
            simp only [Wr.first]
            rw [HM.out, if_neg hmz, if_neg (by omega)]
          have HF := Lib.hid hfst
          clear hfst
          have hV8 : Wr.val (r.take i) < 18446744073709551616 := Nat.lt_of_lt_of_le hvl (Nat.pow_le_pow_right (by decide) hm8)
          generalize Wr.val (r.take i) = V at *
          clear hvl
          by_cases h62 : 4611686018427387904 < V
          · have hd6 : decide ((4611686018427387904 : Int) < (V : Int)) = true := decide_eq_true (by omega)
            rw [if_pos (.inl h62)] at HF
            go_wp2_with fail
            go_ret2
            exact ⟨by rw [HF.out]; rfl, Later.refl _⟩
          · have hd6 : decide ((4611686018427387904 : Int) < (V : Int)) = false := decide_eq_false (by omega)
            have hnum := HNUM.out V (by omega) wr
            generalize hbl : (Wr.bytes V).length = bl at *
            have HBL := Lib.hid hbl
            clear hbl
            by_cases hbe : bl = 1 + i
            · have hd7 : ((bl : Int) == 1 + (i : Int)) = true := by simp; omega
              rw [if_neg (fun h => h.elim h62 (fun h => h hbe))] at HF
              go_wp2_with (first
                | (go_at_call 15; refine hnum.mono ?_; clear hnum; rintro e w5 ⟨v5, rfl, hown5, hL5⟩; obtain ⟨A5, c5, rfl, _, _, _⟩ := hown5.slice; rw [HBL.out])
                | fail)
              go_ret2
              exact ⟨by rw [HF.out]; rfl, hL5⟩
            · have hd7 : ((bl : Int) == 1 + (i : Int)) = false := by simp; omega
              rw [if_pos (.inr hbe)] at HF
              go_wp2_with (first
                | (go_at_call 15; refine hnum.mono ?_; clear hnum; rintro e w5 ⟨v5, rfl, hown5, hL5⟩; obtain ⟨A5, c5, rfl, _, _, _⟩ := hown5.slice; rw [HBL.out])
                | fail)
              go_ret2
              exact ⟨by rw [HF.out]; rfl, hL5⟩
end Go.Proofs.Ytmipaacobioakaa
