/- Joined texts: Rb6. -/
import Derived.Test.YtloiaaolnfimgaaGreatRc3
import Derived.WalkKit
import Derived.WalkSpells
import Derived.Deep.MidRow
import Derived.Deep.WholeRow
import Derived.Deep.Draws
import Derived.Maps.AppendAt
import Derived.Lib.Hide
import Derived.OwnWalk
import Derived.Laws.IdiomStrings
import Derived.Lib.SlBytesConst
import Derived.Orders
import Derived.Shelf.Abstract
import Derived.OrdersIn
import Derived.RangeFuncCalls
import Derived.RangeFuncNested
import Derived.RangeFuncBound
import Derived.RangeFuncLeaves
import Derived.Shelf.RegionOpen
import Derived.OwnWalkIn
import Derived.TacticsInMore
import Derived.LoopNIn
import Derived.LoopIn
import Derived.WalkMore
import Derived.Test.YtloiaaolnfimgaaGreatRows
import Derived.ProofKit
import Derived.OpenShut
import Derived.Deep.Slices
import Derived.Deep.Matrix
import Derived.WalkLawsBesides
import Derived.BigRegion
import Derived.BigQuiet
import Derived.Lib.AppendZeros
import Derived.Laws.BitsAllLaws
import Derived.IntWalk
import Derived.Laws.CopyOwn
import Derived.Outline
import Derived.Deep.RegionWith
import Derived.Deep.RegionHeld3
import Derived.Laws.EntriesVeiled
import Derived.Deep.DeepCutAuto
import Derived.StillTailTactics
import Derived.Deep.QuietTactic
import Derived.Stop.BytesEq
import Derived.ShutString
import Derived.ChangeOld
import Derived.Lib.ConvBytes
import Derived.Recover
import Derived.Defers
import Derived.Deep.Cut
import Derived.Maps.OwnOps
import Derived.Lib.QuoteBits
import Derived.Lib.AppendStr
import Derived.Deep.Grids
import Derived.Lib.LaidTab
import Derived.ScopeJumps
import Derived.Deep.SlicePairs
import Derived.Lib.SmallJoins
set_option linter.unusedVariables false
set_option linter.unusedSimpArgs false
namespace Go.Proofs.YtloiaaolnfimgaaGreat
open Go.RowKit
theorem Wr.many_cases (x : UInt8) : (Wr.many x = 0 ∧ x.toNat < 253) ∨ (Wr.many x = 2 ∧ x.toNat = 253) ∨ (Wr.many x = 4 ∧ x.toNat = 254) ∨ (Wr.many x = 8 ∧ x.toNat = 255) := by
  have h : ∀ n : Fin 256, (Wr.many (UInt8.ofNat n.val) = 0 ∧ (UInt8.ofNat n.val).toNat < 253) ∨ (Wr.many (UInt8.ofNat n.val) = 2 ∧ (UInt8.ofNat n.val).toNat = 253) ∨ (Wr.many (UInt8.ofNat n.val) = 4 ∧ (UInt8.ofNat n.val).toNat = 254) ∨ (Wr.many (UInt8.ofNat n.val) = 8 ∧ (UInt8.ofNat n.val).toNat = 255) := by decide +kernel
  have := h ⟨x.toNat, x.toNat_lt⟩
  simpa using this
set_option maxRecDepth 100000 in
set_option maxHeartbeats 2000000 in
theorem wrefFirst_any (A : Option Addr) (n c : Nat) (l : List UInt8) (w : World) (hn : l.length = n) (hm : n ≤ 9223372036854775000) (hr : Rd w A l) :
    Calls Tryz.prog 90 #[.slice A n c] w fun e w' => e = .returned (.tuple #[.int .i64 ((Wr.first l).1 : Int), .int .i64 (Wr.first l).2]) ∧ Later w w' := by
  rcases l with _ | ⟨x, r⟩
  · simp at hn
    subst hn
    go_enter Tryz.func90, Tryz.ntmps90
    go_wp2_with fail
    go_ret2
    exact ⟨rfl, Later.refl _⟩
  have hn0 : 0 < n := by rw [← hn]; simp
  obtain ⟨b, o, rfl, hc0⟩ := hr.at_ (k := 0) (by simp)
  rw [Nat.add_zero] at hc0
  have hd : ((n : Int) == 0) = false := by simp; omega
  have hd0 : decide ((0 : Int) < (n : Int)) = true := decide_eq_true (by omega)
  have hd0' : decide (0 < n) = true := decide_eq_true hn0
  obtain ⟨m, hm0⟩ : ∃ m, Wr.many x = m := ⟨_, rfl⟩
  have hmc := Wr.many_cases x
  rw [hm0] at hmc
  have HM := Lib.hid hm0
  clear hm0
  by_cases hlt : x.toNat < 253
  · have hd1 : decide ((x.toNat : Int) < 253) = true := decide_eq_true (by omega)
    have hfst : Wr.first (x :: r) = (x.toNat, 1) := by
      have : m = 0 := by omega
      simp [Wr.first, HM.out, this]
    rw [hfst]
    clear hfst hmc
    go_enter Tryz.func90, Tryz.ntmps90
    go_wp2_with fail
    go_ret2
    exact ⟨rfl, Later.refl _⟩
  have hd1 : decide ((x.toNat : Int) < 253) = false := decide_eq_false (by omega)
  have hm248 : m = 2 ∨ m = 4 ∨ m = 8 := by omega
  have hmz : m ≠ 0 := by omega
  have HR := Lib.hid hr
  have HN := Lib.hid hn
  have hnum := fun (v : Nat) (hv : v < 9223372036854775808) W => refNumber_any v W hv
  have HNUM := Lib.hid hnum
  clear hnum hr hn
  have H248 := Lib.hid hm248
  go_enter Tryz.func90, Tryz.ntmps90
  go_upto_region 5 with fail
  rcases H248.out with h | h | h
  · have e4 : ((x.toNat : Int) == 254) = false := by simp; omega
    have e8 : ((x.toNat : Int) == 255) = false := by simp; omega
    clear hmc hlt hm248
    go_upto_region 10 with fail
    rw [show Value.int .i64 2 = .int .i64 (m : Int) by rw [h]; rfl]
    have hm8 : m ≤ 8 := by omega
    have hmp : 2 ≤ m := by omega
    clear h e4 e8
    by_cases hlen : n < 1 + m
    · have hd2 : decide ((n : Int) < 1 + (m : Int)) = true := decide_eq_true (by omega)
      have hfst : Wr.first (x :: r) = (0, 0) := by
        have h1 := HN.out
        rw [List.length_cons] at h1
        simp only [Wr.first]
        rw [HM.out, if_neg hmz, if_pos (by omega)]
      have HF := Lib.hid hfst
      clear hfst
      go_wp2_with fail
      go_ret2
      exact ⟨by rw [HF.out]; rfl, Later.refl _⟩
    · have hd2 : decide ((n : Int) < 1 + (m : Int)) = false := decide_eq_false (by omega)
      have hrl : m ≤ r.length := by have h1 := HN.out; rw [List.length_cons] at h1; omega
      go_wp2_with fail
      go_loopw [5, 6] (fun u t wr => ∃ i : Nat, i ≤ m ∧ t = .int .i64 ((i : Int) + 1) ∧ wr = w ∧ u = .int .u64 (Wr.val (r.take i) : Int)) (fun u t _ => m + 1 - (intOf t).toNat)
      case atStart => exact ⟨0, by omega, rfl, rfl, rfl⟩
      case round =>
        obtain ⟨i, hi, rfl, rfl, rfl⟩ := hrel
        have hvl := Wr.val_lt (r.take i)
        rw [List.length_take, Nat.min_eq_left (by omega)] at hvl
        by_cases hlti : i < m
        · have hdl : decide ((i : Int) + 1 ≤ (m : Int)) = true := decide_eq_true (by omega)
          obtain ⟨b', o', e', hcc⟩ := HR.out (by simp)
          cases e'
          have hcell := hcc (i + 1) (by simp; omega)
          rw [List.getElem_cons_succ] at hcell
          have hnx : r.take (i + 1) = r.take i ++ [r[i]'(by omega)] := List.take_succ_eq_append_getElem (by omega)
          have hv1 : Wr.val (r.take (i + 1)) = 256 * Wr.val (r.take i) + (r[i]'(by omega)).toNat := by rw [hnx, Wr.val_snoc]
          have hcx := (r[i]'(by omega : i < r.length)).toNat_lt
          generalize (r[i]'(by omega : i < r.length)) = cx at *
          generalize hV : Wr.val (r.take i) = V at *
          have hvl7 : V < 256 ^ 7 := Nat.lt_of_lt_of_le hvl (Nat.pow_le_pow_right (by decide) (by omega))
          have HV1 := Lib.hid hv1
          have HVL := Lib.hid hvl
          have hbd : decide ((i : Int) + 1 < (n : Int)) = true := decide_eq_true (by omega)
          clear hv1 hnx hvl hcc
          go_wp2_with fail
          go_roundw
          case rel => exact ⟨i + 1, by omega, by go_num, trivial, by rw [HV1.out]; push_cast; rfl⟩
          case measure => simp [intOf]; omega
        · obtain rfl : i = m := by omega
          have hdl : decide ((i : Int) + 1 ≤ (i : Int)) = false := decide_eq_false (by omega)
          have hnb := Wr.bytes_le (Wr.val (r.take i))
          have hfst : (Wr.first (x :: r)) = if 4611686018427387904 < Wr.val (r.take i) ∨ (Wr.bytes (Wr.val (r.take i))).length ≠ 1 + i then (0, -1) else (Wr.val (r.take i), 1 + (i : Int)) := by
            simp only [Wr.first]
            rw [HM.out, if_neg hmz, if_neg (by omega)]
          have HF := Lib.hid hfst
          clear hfst
          have hV8 : Wr.val (r.take i) < 18446744073709551616 := Nat.lt_of_lt_of_le hvl (Nat.pow_le_pow_right (by decide) hm8)
          generalize Wr.val (r.take i) = V at *
          clear hvl
          by_cases h62 : 4611686018427387904 < V
          · have hd6 : decide ((4611686018427387904 : Int) < (V : Int)) = true := decide_eq_true (by omega)
            rw [if_pos (.inl h62)] at HF
            go_wp2_with fail
            go_ret2
            exact ⟨by rw [HF.out]; rfl, Later.refl _⟩
          · have hd6 : decide ((4611686018427387904 : Int) < (V : Int)) = false := decide_eq_false (by omega)
            have hnum := HNUM.out V (by omega) wr
            generalize hbl : (Wr.bytes V).length = bl at *
            have HBL := Lib.hid hbl
            clear hbl
            by_cases hbe : bl = 1 + i
            · have hd7 : ((bl : Int) == 1 + (i : Int)) = true := by simp; omega
              rw [if_neg (fun h => h.elim h62 (fun h => h hbe))] at HF
              go_wp2_with (first
                | (go_at_call 63; refine hnum.mono ?_; clear hnum; rintro e w5 ⟨v5, rfl, hown5, hL5⟩; obtain ⟨A5, c5, rfl, _, _, _⟩ := hown5.slice; rw [HBL.out])
                | fail)
              go_ret2
              exact ⟨by rw [HF.out]; rfl, hL5⟩
            · have hd7 : ((bl : Int) == 1 + (i : Int)) = false := by simp; omega
              rw [if_pos (.inr hbe)] at HF
              go_wp2_with (first
                | (go_at_call 63; refine hnum.mono ?_; clear hnum; rintro e w5 ⟨v5, rfl, hown5, hL5⟩; obtain ⟨A5, c5, rfl, _, _, _⟩ := hown5.slice; rw [HBL.out])
                | fail)
              go_ret2
              exact ⟨by rw [HF.out]; rfl, hL5⟩
  · have e4 : ((x.toNat : Int) == 254) = true := by simp; omega
    have e8 : ((x.toNat : Int) == 255) = false := by simp; omega
    clear hmc hlt hm248
    go_upto_region 10 with fail
    rw [show Value.int .i64 4 = .int .i64 (m : Int) by rw [h]; rfl]
    have hm8 : m ≤ 8 := by omega
    have hmp : 2 ≤ m := by omega
    clear h e4 e8
    by_cases hlen : n < 1 + m
    · have hd2 : decide ((n : Int) < 1 + (m : Int)) = true := decide_eq_true (by omega)
      have hfst : Wr.first (x :: r) = (0, 0) := by
        have h1 := HN.out
        rw [List.length_cons] at h1
        simp only [Wr.first]
        rw [HM.out, if_neg hmz, if_pos (by omega)]
      have HF := Lib.hid hfst
      clear hfst
      go_wp2_with fail
      go_ret2
      exact ⟨by rw [HF.out]; rfl, Later.refl _⟩
    · have hd2 : decide ((n : Int) < 1 + (m : Int)) = false := decide_eq_false (by omega)
      have hrl : m ≤ r.length := by have h1 := HN.out; rw [List.length_cons] at h1; omega
      go_wp2_with fail
      go_loopw [5, 6] (fun u t wr => ∃ i : Nat, i ≤ m ∧ t = .int .i64 ((i : Int) + 1) ∧ wr = w ∧ u = .int .u64 (Wr.val (r.take i) : Int)) (fun u t _ => m + 1 - (intOf t).toNat)
      case atStart => exact ⟨0, by omega, rfl, rfl, rfl⟩
      case round =>
        obtain ⟨i, hi, rfl, rfl, rfl⟩ := hrel
        have hvl := Wr.val_lt (r.take i)
        rw [List.length_take, Nat.min_eq_left (by omega)] at hvl
        by_cases hlti : i < m
        · have hdl : decide ((i : Int) + 1 ≤ (m : Int)) = true := decide_eq_true (by omega)
          obtain ⟨b', o', e', hcc⟩ := HR.out (by simp)
          cases e'
          have hcell := hcc (i + 1) (by simp; omega)
          rw [List.getElem_cons_succ] at hcell
          have hnx : r.take (i + 1) = r.take i ++ [r[i]'(by omega)] := List.take_succ_eq_append_getElem (by omega)
          have hv1 : Wr.val (r.take (i + 1)) = 256 * Wr.val (r.take i) + (r[i]'(by omega)).toNat := by rw [hnx, Wr.val_snoc]
          have hcx := (r[i]'(by omega : i < r.length)).toNat_lt
          generalize (r[i]'(by omega : i < r.length)) = cx at *
          generalize hV : Wr.val (r.take i) = V at *
          have hvl7 : V < 256 ^ 7 := Nat.lt_of_lt_of_le hvl (Nat.pow_le_pow_right (by decide) (by omega))
          have HV1 := Lib.hid hv1
          have HVL := Lib.hid hvl
          have hbd : decide ((i : Int) + 1 < (n : Int)) = true := decide_eq_true (by omega)
          clear hv1 hnx hvl hcc
          go_wp2_with fail
          go_roundw
          case rel => exact ⟨i + 1, by omega, by go_num, trivial, by rw [HV1.out]; push_cast; rfl⟩
          case measure => simp [intOf]; omega
        · obtain rfl : i = m := by omega
          have hdl : decide ((i : Int) + 1 ≤ (i : Int)) = false := decide_eq_false (by omega)
          have hnb := Wr.bytes_le (Wr.val (r.take i))
          have hfst : (Wr.first (x :: r)) = if 4611686018427387904 < Wr.val (r.take i) ∨ (Wr.bytes (Wr.val (r.take i))).length ≠ 1 + i then (0, -1) else (Wr.val (r.take i), 1 + (i : Int)) := by
            simp only [Wr.first]
            rw [HM.out, if_neg hmz, if_neg (by omega)]
          have HF := Lib.hid hfst
          clear hfst
          have hV8 : Wr.val (r.take i) < 18446744073709551616 := Nat.lt_of_lt_of_le hvl (Nat.pow_le_pow_right (by decide) hm8)
          generalize Wr.val (r.take i) = V at *
          clear hvl
          by_cases h62 : 4611686018427387904 < V
          · have hd6 : decide ((4611686018427387904 : Int) < (V : Int)) = true := decide_eq_true (by omega)
            rw [if_pos (.inl h62)] at HF
            go_wp2_with fail
            go_ret2
            exact ⟨by rw [HF.out]; rfl, Later.refl _⟩
          · have hd6 : decide ((4611686018427387904 : Int) < (V : Int)) = false := decide_eq_false (by omega)
            have hnum := HNUM.out V (by omega) wr
            generalize hbl : (Wr.bytes V).length = bl at *
            have HBL := Lib.hid hbl
            clear hbl
            by_cases hbe : bl = 1 + i
            · have hd7 : ((bl : Int) == 1 + (i : Int)) = true := by simp; omega
              rw [if_neg (fun h => h.elim h62 (fun h => h hbe))] at HF
              go_wp2_with (first
                | (go_at_call 63; refine hnum.mono ?_; clear hnum; rintro e w5 ⟨v5, rfl, hown5, hL5⟩; obtain ⟨A5, c5, rfl, _, _, _⟩ := hown5.slice; rw [HBL.out])
                | fail)
              go_ret2
              exact ⟨by rw [HF.out]; rfl, hL5⟩
            · have hd7 : ((bl : Int) == 1 + (i : Int)) = false := by simp; omega
              rw [if_pos (.inr hbe)] at HF
              go_wp2_with (first
                | (go_at_call 63; refine hnum.mono ?_; clear hnum; rintro e w5 ⟨v5, rfl, hown5, hL5⟩; obtain ⟨A5, c5, rfl, _, _, _⟩ := hown5.slice; rw [HBL.out])
                | fail)
              go_ret2
              exact ⟨by rw [HF.out]; rfl, hL5⟩
  · have e4 : ((x.toNat : Int) == 254) = false := by simp; omega
    have e8 : ((x.toNat : Int) == 255) = true := by simp; omega
    clear hmc hlt hm248
    go_upto_region 10 with fail
    rw [show Value.int .i64 8 = .int .i64 (m : Int) by rw [h]; rfl]
    have hm8 : m ≤ 8 := by omega
    have hmp : 2 ≤ m := by omega
    clear h e4 e8
    by_cases hlen : n < 1 + m
    · have hd2 : decide ((n : Int) < 1 + (m : Int)) = true := decide_eq_true (by omega)
      have hfst : Wr.first (x :: r) = (0, 0) := by
        have h1 := HN.out
        rw [List.length_cons] at h1
        simp only [Wr.first]
        rw [HM.out, if_neg hmz, if_pos (by omega)]
      have HF := Lib.hid hfst
      clear hfst
      go_wp2_with fail
      go_ret2
      exact ⟨by rw [HF.out]; rfl, Later.refl _⟩
    · have hd2 : decide ((n : Int) < 1 + (m : Int)) = false := decide_eq_false (by omega)
      have hrl : m ≤ r.length := by have h1 := HN.out; rw [List.length_cons] at h1; omega
      go_wp2_with fail
      go_loopw [5, 6] (fun u t wr => ∃ i : Nat, i ≤ m ∧ t = .int .i64 ((i : Int) + 1) ∧ wr = w ∧ u = .int .u64 (Wr.val (r.take i) : Int)) (fun u t _ => m + 1 - (intOf t).toNat)
      case atStart => exact ⟨0, by omega, rfl, rfl, rfl⟩
      case round =>
        obtain ⟨i, hi, rfl, rfl, rfl⟩ := hrel
        have hvl := Wr.val_lt (r.take i)
        rw [List.length_take, Nat.min_eq_left (by omega)] at hvl
        by_cases hlti : i < m
        · have hdl : decide ((i : Int) + 1 ≤ (m : Int)) = true := decide_eq_true (by omega)
          obtain ⟨b', o', e', hcc⟩ := HR.out (by simp)
          cases e'
          have hcell := hcc (i + 1) (by simp; omega)
          rw [List.getElem_cons_succ] at hcell
          have hnx : r.take (i + 1) = r.take i ++ [r[i]'(by omega)] := List.take_succ_eq_append_getElem (by omega)
          have hv1 : Wr.val (r.take (i + 1)) = 256 * Wr.val (r.take i) + (r[i]'(by omega)).toNat := by rw [hnx, Wr.val_snoc]
          have hcx := (r[i]'(by omega : i < r.length)).toNat_lt
          generalize (r[i]'(by omega : i < r.length)) = cx at *
          generalize hV : Wr.val (r.take i) = V at *
          have hvl7 : V < 256 ^ 7 := Nat.lt_of_lt_of_le hvl (Nat.pow_le_pow_right (by decide) (by omega))
          have HV1 := Lib.hid hv1
          have HVL := Lib.hid hvl
          have hbd : decide ((i : Int) + 1 < (n : Int)) = true := decide_eq_true (by omega)
          clear hv1 hnx hvl hcc
          go_wp2_with fail
          go_roundw
          case rel => exact ⟨i + 1, by omega, by go_num, trivial, by rw [HV1.out]; push_cast; rfl⟩
          case measure => simp [intOf]; omega
        · obtain rfl : i = m := by omega
          have hdl : decide ((i : Int) + 1 ≤ (i : Int)) = false := decide_eq_false (by omega)
          have hnb := Wr.bytes_le (Wr.val (r.take i))
          have hfst : (Wr.first (x :: r)) = if 4611686018427387904 < Wr.val (r.take i) ∨ (Wr.bytes (Wr.val (r.take i))).length ≠ 1 + i then (0, -1) else (Wr.val (r.take i), 1 + (i : Int)) := by
            simp only [Wr.first]
            rw [HM.out, if_neg hmz, if_neg (by omega)]
          have HF := Lib.hid hfst
          clear hfst
          have hV8 : Wr.val (r.take i) < 18446744073709551616 := Nat.lt_of_lt_of_le hvl (Nat.pow_le_pow_right (by decide) hm8)
          generalize Wr.val (r.take i) = V at *
          clear hvl
          by_cases h62 : 4611686018427387904 < V
          · have hd6 : decide ((4611686018427387904 : Int) < (V : Int)) = true := decide_eq_true (by omega)
            rw [if_pos (.inl h62)] at HF
            go_wp2_with fail
            go_ret2
            exact ⟨by rw [HF.out]; rfl, Later.refl _⟩
          · have hd6 : decide ((4611686018427387904 : Int) < (V : Int)) = false := decide_eq_false (by omega)
            have hnum := HNUM.out V (by omega) wr
            generalize hbl : (Wr.bytes V).length = bl at *
            have HBL := Lib.hid hbl
            clear hbl
            by_cases hbe : bl = 1 + i
            · have hd7 : ((bl : Int) == 1 + (i : Int)) = true := by simp; omega
              rw [if_neg (fun h => h.elim h62 (fun h => h hbe))] at HF
              go_wp2_with (first
                | (go_at_call 63; refine hnum.mono ?_; clear hnum; rintro e w5 ⟨v5, rfl, hown5, hL5⟩; obtain ⟨A5, c5, rfl, _, _, _⟩ := hown5.slice; rw [HBL.out])
                | fail)
              go_ret2
              exact ⟨by rw [HF.out]; rfl, hL5⟩
            · have hd7 : ((bl : Int) == 1 + (i : Int)) = false := by simp; omega
              rw [if_pos (.inr hbe)] at HF
              go_wp2_with (first
                | (go_at_call 63; refine hnum.mono ?_; clear hnum; rintro e w5 ⟨v5, rfl, hown5, hL5⟩; obtain ⟨A5, c5, rfl, _, _, _⟩ := hown5.slice; rw [HBL.out])
                | fail)
              go_ret2
              exact ⟨by rw [HF.out]; rfl, hL5⟩
end Go.Proofs.YtloiaaolnfimgaaGreat
namespace Go.Proofs.YtloiaaolnfimgaaGreat
open Go.RowKit
section
variable {P : Program} {Q : Exit → Act → World → Prop} {o : Oper} {a : Act} {W : World} {R : Value → World → Prop}
theorem op_buildR {t : TypeId} {parts : Array (Nat × Operand)} {vs : Array (Nat × Value)} {v : Value} (ho : o.op = .build t parts) (hp : (parts.map fun (i, x) => (i, a.eval x)) = vs) (hr : (Instr.build t vs).run P W = .ok v W) (h : R v W) : o.wp P a W (fun a' W' => ∃ v, a' = a.put o.dst v ∧ Later W W' ∧ R v W') Q := by
  refine op_value (v := v) (W' := W) ?_ (Later.refl _) h
  unfold execOp
  simp only [ho, hp, hr, Sem.run_bind, Sem.run_pure, Result.andThen_ok]
theorem op_boxR {t : TypeId} {x : Operand} {vx v : Value} {W' : World} (ho : o.op = .box t x) (hx : a.eval x = vx) (hr : (Instr.box t vx).run P W = .ok v W') (hL : Later W W') (h : R v W') : o.wp P a W (fun a' W' => ∃ v, a' = a.put o.dst v ∧ Later W W' ∧ R v W') Q := by
  refine op_value (v := v) (W' := W') ?_ hL h
  unfold execOp
  simp only [ho, hx, hr, Sem.run_bind, Sem.run_pure, Result.andThen_ok]
theorem last_assign {x : Operand} {vx : Value} (ho : o.op = .assign x) (hx : a.eval x = vx) (h : Q .normal (a.put o.dst vx) W) : LastOk P o a W Q :=
  ⟨op_assignK (K := fun a' W' => Q .normal a' W') ho (by rw [hx]; exact h)⟩
end
theorem Calls.post {P : Program} {f : FuncId} {args : Array Value} {w : World} {R : Ending → World → Prop} (h : ∀ Φ : Ending → World → Prop, Hid (∀ e w', R e w' → Φ e w') → Calls P f args w Φ) : Calls P f args w R := h R (Lib.hid fun _ _ h => h)
abbrev rfV (A : Option Addr) (n c : Nat) (bad : Bool) : Array Value := #[.slice A n c, .bool bad]
theorem infoRf : (Tryz.prog.info? 89).map (·.size) = some 2 := by kernel_rfl
theorem boxRf (A : Option Addr) (n c : Nat) (bad : Bool) (w : World) : (Instr.box 89 (.agg (rfV A n c bad))).run Tryz.prog w = .ok (.pointer (some ⟨w.heap.size, 0, none⟩)) (w.alloc (.cells (rfV A n c bad) 89)) := run_box_row w _ _ infoRf
theorem allocRf (w : World) : (Instr.alloc 89 true (.tuple #[])).run Tryz.prog w = .ok (.pointer (some ⟨w.heap.size, 0, none⟩)) (w.alloc (.cells (rfV none 0 0 false) 89)) := by kernel_rfl
theorem buildRf (A : Option Addr) (n c : Nat) (bad : Bool) (w : World) : (Instr.build 89 #[(0, .slice A n c), (1, .bool bad)]).run Tryz.prog w = .ok (.agg (rfV A n c bad)) w := by kernel_rfl
theorem loadRf {w : World} {g : Nat} {A : Option Addr} {n c : Nat} {bad : Bool} (hr : Row w g 89 (rfV A n c bad)) : (Instr.loadAt 89 (.pointer (some ⟨g, 0, none⟩))).run Tryz.prog w = .ok (.agg (rfV A n c bad)) w := run_load_row hr Tryz.underlying89 rfl infoRf
theorem storeRf {w : World} {g : Nat} {A A' : Option Addr} {n c n' c' : Nat} {bad bad' : Bool} (hr : Row w g 89 (rfV A n c bad)) : ∃ w', (Instr.storeAt 89 (.pointer (some ⟨g, 0, none⟩)) (.agg (rfV A' n' c' bad'))).run Tryz.prog w = .ok () w' ∧ Row w' g 89 (rfV A' n' c' bad') ∧ w.grownBy w' (some g) :=
  ⟨_, run_store_row hr (rfV A' n' c' bad') infoRf (by simp) (by kernel_rfl), row_setCells [.slice A' n' c', .bool bad'] 0 w _ hr, grown_setCells _ _ _⟩
theorem fieldRf0 {g : Nat} (W : World) : (Instr.fieldAt 89 (.pointer (some ⟨g, 0, none⟩)) 0).run Tryz.prog W = .ok (.pointer (some ⟨g, 0, none⟩)) W := by
  go_simp
theorem results_cell_tmp2 {P : Program} {fn : Func} {p q q2 : Tmp} {ty : TypeId} (h : fn.results = #[.cell p ty, .tmp q, .tmp q2]) (tmps : Array Value) (w : World) (g : Nat) (t : TypeId) (cs : Array Value) (fr : Nat × Nat) (d : TypeDesc) (v v2 : Value)
    (hp : tmps.getD p undef = .pointer (some ⟨g, 0, none⟩)) (hq : tmps.getD q undef = v) (hq2 : tmps.getD q2 undef = v2) (hg : w.heap[g]? = some (.cells cs t fr))
    (hu : P.underlying ty = some d) (hd : (match d with | .struct _ | .array _ _ => true | _ => false) = true) (hi : (P.info? ty).map (·.size) = some cs.size) :
    (results fn tmps).run P w = .ok (.tuple #[.agg cs, v, v2]) w := by
  have hp' : tmps[p]?.getD undef = .pointer (some ⟨g, 0, none⟩) := by simpa using hp
  have hq' : tmps[q]?.getD undef = v := by simpa using hq
  have hq2' : tmps[q2]?.getD undef = v2 := by simpa using hq2
  simp [results, h, hp', hq', hq2', asAddr, run_loadVar_row w g t ty cs fr d hg hu hd hi]
set_option maxRecDepth 100000 in
set_option maxHeartbeats 1000000 in
theorem refTake_any (A : Option Addr) (n c : Nat) (l : List UInt8) (bad : Bool) (k : Nat) (w : World) (hn : l.length = n) (hc : n ≤ c) (hcm : c ≤ 9223372036854775807) (hk : k ≤ 9223372036854775807) :
    Calls Tryz.prog 89 #[.agg (rfV A n c bad), .int .i64 (k : Int)] w fun e w' => Later w w' ∧ ((bad = false ∧ k ≤ n ∧ ∃ D, e = .returned (.tuple #[.agg (rfV D (n - k) (c - k) false), .slice A k c, .int .i64 0]) ∧ ∀ X, Rd X A l → Rd X D (l.drop k)) ∨ ((bad = true ∨ n < k) ∧ e = .returned (.tuple #[.agg (rfV A n c true), .slice none 0 0, .int .i64 140]))) := by
  have k2 := (Row.new w 89 (rfV A n c bad)).alloc (.cells (rfV none 0 0 false) 89)
  have k4 := Row.new (w.alloc (.cells (rfV A n c bad) 89)) 89 (rfV none 0 0 false)
  have hb := (((Later.refl w).alloc (.cells (rfV A n c bad) 89)).alloc (.cells (rfV none 0 0 false) 89))
  refine Calls.post fun Φ HΦ => ?_
  go_enter Tryz.func89, Tryz.ntmps89
  go_upto_region 1 with (first
    | (with_reducible refine wpList_alloc rfl 89 rfl (allocRf _) ?_)
    | fail)
  simp only [World.size_alloc] at k4 ⊢
  obtain ⟨q, hq⟩ : ∃ q, q = w.heap.size := ⟨_, rfl⟩
  rw [← hq] at k2 k4 ⊢
  generalize (w.alloc (.cells (rfV A n c bad) 89)).alloc (.cells (rfV none 0 0 false) 89) = w1 at *
  have HQ := Lib.hid hq
  clear hq
  have c20 : w1.cell? ⟨q, 0, none⟩ = some (.slice A n c) := (k2.cell 0).trans rfl
  have c21 : w1.cell? ⟨q, 1, none⟩ = some (.bool bad) := (k2.cell 1).trans rfl
  by_cases hok : bad = false ∧ k ≤ n
  · obtain ⟨rfl, hkn⟩ := hok
    have hd : decide ((n : Int) < (k : Int)) = false := decide_eq_false (by omega)
    obtain ⟨D, hs1, hD⟩ := run_slice_from (P := Tryz.prog) (t := 60) (U := 5) (A := A) (n := n) (ca := c) (k := k) Tryz.underlying60 byteInfo hkn hc
    have hs2 : ∀ w : World, (Instr.sliceAt 60 (.slice A n c) none (some (.int .i64 (k : Int))) none).run Tryz.prog w = .ok (.slice A k c) w := run_slice_upto (k := k) Tryz.underlying60 byteInfo (by omega)
    go_upto_region 3 with fail
    refine (wpIn_wide (n := 0)).1 ?_
    refine wpIn_region_pivot wide_wide 9 [.pointer (some ⟨q, 0, none⟩), .slice A n c, .int .i64 (k : Int), .slice D (n - k) (c - k), .agg (rfV D (n - k) (c - k) false), .pointer (some ⟨q, 0, none⟩), .slice A n c, .int .i64 (k : Int), .slice A k c, undef, .slice A k c] (fun W => Later w1 W) (fun y W => Later w W ∧ Row W q 89 (rfV A n c false) ∧ Row W (q + 1) 89 (rfV D (n - k) (c - k) false)) (fun W W' h k => k.step h) (fun y W W' h k => ⟨k.1.step h, k.2.1.later h, k.2.2.later h⟩) (Later.refl _) (by kernel_rfl) (by kernel_rfl) (by kernel_rfl) (by kernel_rfl) (by kernel_rfl) (by kernel_rfl) rfl (by kernel_rfl) (by kernel_rfl) ⟨?_, ?_, ?_, ?_, ?_, ?_, ?_, ?_, ?_, ?_, ?_, trivial⟩ ?_
    · exact fun ac W d x he => stepOk_want rfl (op_fieldAddr rfl (he.keep (.tmp 2) (by kernel_rfl)) (fieldRf0 W) rfl)
    · exact fun ac W d x he => stepOk_want rfl (op_load rfl (show ac.eval (.tmp 19) = .pointer (some ⟨q, 0, none⟩) from he.val 0 19 (by kernel_rfl) rfl rfl) (loadSl ((he.both (C := fun W => Row W q 89 (rfV A n c false)) (fun W h => k2.later h) (fun y W h => h.2.1)).cell 0 |>.trans rfl)) rfl)
    · exact fun ac W d x he => stepOk_want rfl (op_move rfl (he.keep (.tmp 1) (by kernel_rfl)))
    · exact fun ac W d x he => stepOk_want rfl (op_slice (W' := W) rfl (show ac.eval (.tmp 20) = .slice A n c from he.val 1 20 (by kernel_rfl) rfl rfl) (congrArg some (show ac.eval (.tmp 21) = .int .i64 (k : Int) from he.val 2 21 (by kernel_rfl) rfl rfl)) (rfl : _ = none) rfl (hs1 W) rfl)
    · exact fun ac W d x he => stepOk_want rfl (op_buildR rfl (by simp only [List.map_toArray, List.map_cons, List.map_nil, (show ac.eval (.tmp 22) = .slice D (n - k) (c - k) from he.val 3 22 (by kernel_rfl) rfl rfl)]; rfl) (buildRf D (n - k) (c - k) false W) rfl)
    · exact fun ac W d x he => stepOk_want rfl (op_fieldAddr rfl (he.keep (.tmp 2) (by kernel_rfl)) (fieldRf0 W) rfl)
    · exact fun ac W d x he => stepOk_want rfl (op_load rfl (show ac.eval (.tmp 24) = .pointer (some ⟨q, 0, none⟩) from he.val 5 24 (by kernel_rfl) rfl rfl) (loadSl ((he.both (C := fun W => Row W q 89 (rfV A n c false)) (fun W h => k2.later h) (fun y W h => h.2.1)).cell 0 |>.trans rfl)) rfl)
    · exact fun ac W d x he => stepOk_want rfl (op_move rfl (he.keep (.tmp 1) (by kernel_rfl)))
    · exact fun ac W d x he => stepOk_want rfl (op_slice (W' := W) rfl (show ac.eval (.tmp 25) = .slice A n c from he.val 6 25 (by kernel_rfl) rfl rfl) (rfl : _ = none) (congrArg some (show ac.eval (.tmp 26) = .int .i64 (k : Int) from he.val 7 26 (by kernel_rfl) rfl rfl)) rfl (hs2 W) rfl)
    · intro ac W he hA; refine ⟨rfl, ?_⟩; have e4 := (he.keep (.tmp 4) (by kernel_rfl)); have e23 := (show ac.eval (.tmp 23) = .agg (rfV D (n - k) (c - k) false) from he.val 4 23 (by kernel_rfl) rfl rfl); obtain ⟨W', hst, hrow', hg'⟩ := storeRf (A' := D) (n' := n - k) (c' := c - k) (bad' := false) (k4.later hA); exact op_storeK rfl e4 e23 hst ⟨_, rfl, (hb.step hA).grown hg' (hb.step hA).size (fun j e => by cases e; have := HQ.out; omega), (k2.later hA).grown hg' (by intro e; have := Option.some.inj e; omega), hrow'⟩
    · exact fun ac W d x he => stepOk_want rfl (op_assign rfl (show ac.eval (.tmp 27) = .slice A k c from he.val 8 27 (by kernel_rfl) rfl rfl))
    · intro xs W y hB hx hk hg
      refine last_assign (vx := .int .i64 0) rfl rfl ?_
      have e10 := hx 10 (by decide)
      have hB2 := hB
      clear hx hk hg hB
      simp only [initL, lastL, putL, Nat.reduceAdd, Act.put, List.setIfInBounds_toArray, List.set_cons_succ, List.set_cons_zero]
      rw [e10]
      go_wp2_with fail
      exact bodyPost_ret (results_cell_tmp2 rfl _ _ (q + 1) 89 (rfV D (n - k) (c - k) false) (0, 0) _ (.slice A k c) (.int .i64 0) rfl rfl rfl hB2.2.2 Tryz.underlying89 rfl infoRf) rfl (HΦ.out _ _ ⟨hB2.1, .inl ⟨by first | rfl | trivial, hkn, D, rfl, fun X hX => hD X l hn hX⟩⟩)
  · have hor : bad = true ∨ n < k := by
      cases bad
      · exact .inr (by have : ¬ k ≤ n := fun h => hok ⟨rfl, h⟩; omega)
      · exact .inl rfl
    have hd : bad = false → decide ((n : Int) < (k : Int)) = true := fun h => decide_eq_true (by rcases hor with h2 | h2; · { rw [h] at h2; cases h2 }; · omega)
    obtain ⟨w2, hst, k42, hg2⟩ := storeRf (A' := A) (n' := n) (c' := c) (bad' := true) k4
    have hb2 : Later w w2 := hb.grown hg2 hb.size (fun j e => by cases e; have := HQ.out; omega)
    cases bad with
    | true =>
      go_wp2_with (first
        | (refine wpList_store rfl 89 (.tmp 4) (.tmp 18) rfl (.pointer (some ⟨q + 1, 0, none⟩)) (.agg (rfV A n c true)) rfl rfl hst ?_)
        | fail)
      exact bodyPost_ret (results_cell_tmp2 rfl _ _ (q + 1) 89 (rfV A n c true) (0, 0) _ (.slice none 0 0) (.int .i64 140) rfl rfl rfl k42 Tryz.underlying89 rfl infoRf) rfl (HΦ.out _ _ ⟨hb2, .inr ⟨.inl (by first | rfl | trivial), rfl⟩⟩)
    | false =>
      have hd1 : decide ((n : Int) < (k : Int)) = true := hd rfl
      have hkn : n < k := hor.resolve_left (fun h => by cases h)
      clear hd hok
      go_wp2_with (first
        | (refine wpList_store rfl 89 (.tmp 4) (.tmp 18) rfl (.pointer (some ⟨q + 1, 0, none⟩)) (.agg (rfV A n c true)) rfl rfl hst ?_)
        | fail)
      exact bodyPost_ret (results_cell_tmp2 rfl _ _ (q + 1) 89 (rfV A n c true) (0, 0) _ (.slice none 0 0) (.int .i64 140) rfl rfl rfl k42 Tryz.underlying89 rfl infoRf) rfl (HΦ.out _ _ ⟨hb2, .inr ⟨hor, rfl⟩⟩)
def RefV (A : Option Addr) (l : List UInt8) (v : Value) (l' : List UInt8) (bad : Bool) : Prop := ∃ D c, v = .agg (rfV D l'.length c bad) ∧ l'.length ≤ c ∧ c ≤ 9223372036854775807 ∧ ∀ X, Rd X A l → Rd X D l'
set_option maxRecDepth 100000 in
set_option maxHeartbeats 1000000 in
theorem refNumberR_any (A : Option Addr) (n c : Nat) (l : List UInt8) (bad : Bool) (most : Int) (w : World) (hn : l.length = n) (hc : n ≤ c) (hcm : c ≤ 9223372036854775807) (hnm : n ≤ 9223372036854775000) (hr : Rd w A l) :
    Calls Tryz.prog 42 #[.agg (rfV A n c bad), .int .i64 most] w fun e w' => Later w w' ∧ ∃ v, e = .returned (.tuple #[v, .int .i64 (Wr.numR l bad most).2.1, .int .i64 (Wr.numR l bad most).2.2]) ∧ RefV A l v (Wr.numR l bad most).1.1 (Wr.numR l bad most).1.2 := by
  have k2 := (Row.new w 89 (rfV A n c bad)).alloc (.cells (rfV none 0 0 false) 89)
  have k4 := Row.new (w.alloc (.cells (rfV A n c bad) 89)) 89 (rfV none 0 0 false)
  have hb := (((Later.refl w).alloc (.cells (rfV A n c bad) 89)).alloc (.cells (rfV none 0 0 false) 89))
  refine Calls.post fun Φ HΦ => ?_
  go_enter Tryz.func42, Tryz.ntmps42
  go_upto_region 1 with (first
    | (with_reducible refine wpList_alloc rfl 89 rfl (allocRf _) ?_)
    | fail)
  simp only [World.size_alloc] at k4 ⊢
  obtain ⟨q, hq⟩ : ∃ q, q = w.heap.size := ⟨_, rfl⟩
  rw [← hq] at k2 k4 ⊢
  generalize (w.alloc (.cells (rfV A n c bad) 89)).alloc (.cells (rfV none 0 0 false) 89) = w1 at *
  have HQ := Lib.hid hq
  have HN := Lib.hid hn
  clear hq hn
  have c20 : w1.cell? ⟨q, 0, none⟩ = some (.slice A n c) := (k2.cell 0).trans rfl
  have c21 : w1.cell? ⟨q, 1, none⟩ = some (.bool bad) := (k2.cell 1).trans rfl
  have hld := loadRf k2
  have hfin : ∀ w2 w3 (A' : Option Addr) (n' c' : Nat) (b' : Bool), Later w1 w2 → w2.grownBy w3 (some (q + 1)) → Later w w3 := fun w2 w3 A' n' c' b' h h2 => (hb.step h).grown h2 (hb.step h).size (fun j e => by cases e; have := HQ.out; omega)
  cases bad with
  | true =>
    obtain ⟨w2, hst, k42, hg2⟩ := storeRf (A' := A) (n' := n) (c' := c) (bad' := true) k4
    go_wp2_with (first
      | (refine wpList_load rfl 89 (.tmp 2) rfl (.pointer (some ⟨q, 0, none⟩)) rfl hld ?_)
      | (refine wpList_store rfl 89 (.tmp 4) (.tmp 11) rfl (.pointer (some ⟨q + 1, 0, none⟩)) (.agg (rfV A n c true)) rfl rfl hst ?_)
      | fail)
    exact bodyPost_ret (results_cell_tmp2 rfl _ _ (q + 1) 89 (rfV A n c true) (0, 0) _ (.int .i64 0) (.int .i64 140) rfl rfl rfl k42 Tryz.underlying89 rfl infoRf) rfl (HΦ.out _ _ ⟨hfin _ _ A n c true (Later.refl _) hg2, _, rfl, A, c, by rw [← HN.out]; rfl, by rw [← HN.out] at hc; exact hc, by omega, fun _ h => h⟩)
  | false =>
    by_cases hm0 : most < 0
    · have hd : decide (most < 0) = true := decide_eq_true hm0
      have e1 : Wr.numR l false most = ((l, false), 0, 2) := by simp [Wr.numR, hm0]
      rw [e1] at HΦ
      obtain ⟨w2, hst, k42, hg2⟩ := storeRf (A' := A) (n' := n) (c' := c) (bad' := false) k4
      go_wp2_with (first
        | (refine wpList_load rfl 89 (.tmp 2) rfl (.pointer (some ⟨q, 0, none⟩)) rfl hld ?_)
        | (refine wpList_store rfl 89 (.tmp 4) (.tmp 14) rfl (.pointer (some ⟨q + 1, 0, none⟩)) (.agg (rfV A n c false)) rfl rfl hst ?_)
        | fail)
      exact bodyPost_ret (results_cell_tmp2 rfl _ _ (q + 1) 89 (rfV A n c false) (0, 0) _ (.int .i64 0) (.int .i64 2) rfl rfl rfl k42 Tryz.underlying89 rfl infoRf) rfl (HΦ.out _ _ ⟨hfin _ _ A n c true (Later.refl _) hg2, _, rfl, A, c, by rw [← HN.out], by rw [← HN.out] at hc; exact hc, by omega, fun _ h => h⟩)
    have hd : decide (most < 0) = false := decide_eq_false hm0
    have hfi := wrefFirst_any A n c l w1 HN.out (by omega) (hr.later hb)
    obtain ⟨hf1, hf2, hf3⟩ := Wr.first_le l
    by_cases hmay : Wr.may l most
    · have e1 : Wr.numR l false most = ((l.drop (Wr.first l).2.toNat, false), ((Wr.first l).1 : Int), 0) := by simp [Wr.numR, hm0, hmay]
      rw [e1] at HΦ
      have hm2 := hmay
      unfold Wr.may at hm2
      clear e1 hmay
      generalize Wr.first l = F at *
      obtain ⟨f, s⟩ := F
      obtain ⟨hk, hle⟩ := hm2
      obtain ⟨k, rfl⟩ : ∃ k : Nat, s = k := ⟨s.toNat, by have : 0 < s := hk; omega⟩
      replace hf1 : (k : Int) ≤ l.length := hf1
      replace hk : (0 : Int) < k := hk
      replace hle : (f : Int) ≤ most := hle
      have hkn : k ≤ n := by rw [← HN.out]; omega
      simp only [Int.toNat_natCast] at HΦ
      obtain ⟨D, hs1, hD⟩ := run_slice_from (P := Tryz.prog) (t := 60) (U := 5) (A := A) (n := n) (ca := c) (k := k) Tryz.underlying60 byteInfo hkn hc
      have hd2 : decide ((k : Int) ≤ 0) = false := decide_eq_false (by omega)
      have hd3 : decide (most < (f : Int)) = false := decide_eq_false (by omega)
      go_wp2_with (first
        | (go_at_call 90; refine hfi.mono ?_; clear hfi; rintro e w2 ⟨rfl, hL2⟩; have c202 := hL2.cell c20; obtain ⟨w3, hst, k43, hg3⟩ := storeRf (A' := D) (n' := n - k) (c' := c - k) (bad' := false) (k4.later hL2))
        | (refine wpList_store rfl 89 (.tmp 4) (.tmp 35) rfl (.pointer (some ⟨q + 1, 0, none⟩)) (.agg (rfV D (n - k) (c - k) false)) rfl rfl hst ?_)
        | fail)
      exact bodyPost_ret (results_cell_tmp2 rfl _ _ (q + 1) 89 (rfV D (n - k) (c - k) false) (0, 0) _ (.int .i64 (f : Int)) (.int .i64 0) rfl rfl rfl k43 Tryz.underlying89 rfl infoRf) rfl (HΦ.out _ _ ⟨hfin _ _ A n c true hL2 hg3, _, rfl, D, c - k, by rw [List.length_drop, HN.out], by rw [List.length_drop, HN.out]; omega, by omega, fun X h => hD X l HN.out h⟩)
    · have e1 : Wr.numR l false most = ((l, true), 0, 140) := by simp [Wr.numR, hm0, hmay]
      rw [e1] at HΦ
      have hm2 := hmay
      unfold Wr.may at hm2
      clear e1 hmay
      generalize Wr.first l = F at *
      obtain ⟨f, s⟩ := F
      by_cases hk : (0 : Int) < s
      · have hle : ¬ (f : Int) ≤ most := fun h => hm2 ⟨hk, h⟩
        have hd2 : decide (s ≤ 0) = false := decide_eq_false (by omega)
        have hd3 : decide (most < (f : Int)) = true := decide_eq_true (by omega)
        go_wp2_with (first
          | (go_at_call 90; refine hfi.mono ?_; clear hfi; rintro e w2 ⟨rfl, hL2⟩; have c202 := hL2.cell c20; obtain ⟨w3, hst, k43, hg3⟩ := storeRf (A' := A) (n' := n) (c' := c) (bad' := true) (k4.later hL2))
          | (refine wpList_store rfl 89 (.tmp 4) (.tmp 30) rfl (.pointer (some ⟨q + 1, 0, none⟩)) (.agg (rfV A n c true)) rfl rfl hst ?_)
          | fail)
        exact bodyPost_ret (results_cell_tmp2 rfl _ _ (q + 1) 89 (rfV A n c true) (0, 0) _ (.int .i64 0) (.int .i64 140) rfl rfl rfl k43 Tryz.underlying89 rfl infoRf) rfl (HΦ.out _ _ ⟨hfin _ _ A n c true hL2 hg3, _, rfl, A, c, by rw [← HN.out], by rw [← HN.out] at hc; exact hc, by omega, fun _ h => h⟩)
      · have hd2 : decide (s ≤ 0) = true := decide_eq_true (by omega)
        go_wp2_with (first
          | (go_at_call 90; refine hfi.mono ?_; clear hfi; rintro e w2 ⟨rfl, hL2⟩; have c202 := hL2.cell c20; obtain ⟨w3, hst, k43, hg3⟩ := storeRf (A' := A) (n' := n) (c' := c) (bad' := true) (k4.later hL2))
          | (refine wpList_store rfl 89 (.tmp 4) (.tmp 30) rfl (.pointer (some ⟨q + 1, 0, none⟩)) (.agg (rfV A n c true)) rfl rfl hst ?_)
          | fail)
        exact bodyPost_ret (results_cell_tmp2 rfl _ _ (q + 1) 89 (rfV A n c true) (0, 0) _ (.int .i64 0) (.int .i64 140) rfl rfl rfl k43 Tryz.underlying89 rfl infoRf) rfl (HΦ.out _ _ ⟨hfin _ _ A n c true hL2 hg3, _, rfl, A, c, by rw [← HN.out], by rw [← HN.out] at hc; exact hc, by omega, fun _ h => h⟩)
end Go.Proofs.YtloiaaolnfimgaaGreat
namespace Go.Proofs.YtloiaaolnfimgaaGreat
open Go.RowKit Go.ChangeShapes Go.WideShapes Go.ChangeAt
theorem Rd.keep2 {p : Nat → Prop} {w w' : World} {A : Option Addr} {l : List UInt8} (h : Rd w A l) (hs : Same p w w') (hp : ∀ b o x, w.cell? ⟨b, o, none⟩ = some (byteV x) → p b) : Rd w' A l := h.same hs fun b o e hl => by
  obtain ⟨b', o', e', hc⟩ := h hl
  have e2 := e.symm.trans e'
  injection e2 with e2
  injection e2 with e3 e4
  subst e3
  exact hp _ _ _ (hc 0 (List.length_pos_iff.2 hl))
theorem IsRd.same {p : Nat → Prop} {w w' : World} {g : Nat} {l : List UInt8} {bad : Bool} (h : IsRd w g l bad) (hs : Same p w w') (hg : p g) (hp : ∀ b o x, w.cell? ⟨b, o, none⟩ = some (byteV x) → p b) : IsRd w' g l bad := by
  obtain ⟨A, c, h1, h2, h3, h4⟩ := h
  exact ⟨A, c, h1.same hs hg, h2, h3, h4.keep2 hs hp⟩
theorem IsRd.later {w w' : World} {g : Nat} {l : List UInt8} {bad : Bool} (h : IsRd w g l bad) (hL : Later w w') : IsRd w' g l bad := by
  obtain ⟨A, c, h1, h2, h3, h4⟩ := h
  exact ⟨A, c, h1.later hL, h2, h3, h4.later hL⟩
theorem IsRd.lt {w : World} {g : Nat} {l : List UInt8} {bad : Bool} (h : IsRd w g l bad) : g < w.heap.size := by
  obtain ⟨A, c, h1, h2, h3, h4⟩ := h
  exact h1.lt
theorem rf_no_byte {w : World} {q : Nat} {t : TypeId} {A : Option Addr} {n c : Nat} {bad : Bool} (hr : Row w q t (rfV A n c bad)) {b o : Nat} {x : UInt8} (hc : w.cell? ⟨b, o, none⟩ = some (byteV x)) : b ≠ q := fun e => by
  subst e
  rw [hr.cell] at hc
  rcases o with _ | _ | o <;> simp [rfV, byteV] at hc
theorem results_ask {P : Program} {fn : Func} {p q : Tmp} {ty : TypeId} (h : fn.results = #[.cell p ty, .tmp q]) {tmps : Array Value} {w : World} {g : Nat} {t : TypeId} {cs : Array Value} {d : TypeDesc} {v : Value}
    (hp : tmps.getD p undef = .pointer (some ⟨g, 0, none⟩)) (hq : tmps.getD q undef = v) (hg : Row w g t cs)
    (hu : P.underlying ty = some d) (hd : (match d with | .struct _ | .array _ _ => true | _ => false) = true) (hi : (P.info? ty).map (·.size) = some cs.size) :
    (results fn tmps).run P w = .ok (.tuple #[.agg cs, v]) w := results_cell_tmp h tmps w g t cs (0, 0) d v hp hq hg hu hd hi
section
variable {P : Program} {W : World}
theorem eqgI {op : BinOp} {t : TypeId} {x y : Operand} {k k' : IntKind} {i j : Int} : (eqGuard op t x y (.int k i) (.int k' j)).run P W = .ok () W := by cases op <;> rfl
theorem eqgB {op : BinOp} {t : TypeId} {x y : Operand} {i j : Bool} : (eqGuard op t x y (.bool i) (.bool j)).run P W = .ok () W := by cases op <;> rfl
theorem eqgS {op : BinOp} {t : TypeId} {x y : Operand} {i j : ByteArray} : (eqGuard op t x y (.string i) (.string j)).run P W = .ok () W := by cases op <;> rfl
theorem eqlI (t : TypeId) (k : IntKind) (i j : Int) : (binOp .eql t (.int k i) (.int k j)).run P W = .ok (.bool (i == j)) W := by go_simp
theorem neqI (t : TypeId) (k : IntKind) (i j : Int) : (binOp .neq t (.int k i) (.int k j)).run P W = .ok (.bool (i != j)) W := by go_simp
theorem eqlI_self (t : TypeId) (k : IntKind) (i : Int) : (binOp .eql t (.int k i) (.int k i)).run P W = .ok (.bool true) W := by rw [eqlI, beq_self_eq_true]
theorem eqlS_self (t : TypeId) (i : ByteArray) : (binOp .eql t (.string i) (.string i)).run P W = .ok (.bool true) W := by go_simp
theorem neqS_self (t : TypeId) (i : ByteArray) : (binOp .neq t (.string i) (.string i)).run P W = .ok (.bool false) W := by go_simp
end
theorem eqlB_self {W : World} (i : Bool) : (binOp .eql 4 (.bool i) (.bool i)).run Tryz.prog W = .ok (.bool true) W := by go_simp
theorem neqB_self {W : World} (i : Bool) : (binOp .neq 4 (.bool i) (.bool i)).run Tryz.prog W = .ok (.bool false) W := by go_simp
section
variable {w : World}
theorem rdV_of {A : Addr} {vs : List Value} (h : ∀ i (hi : i < vs.length), w.cell? (A.add i) = some vs[i]) : RdV w (some A) vs := fun hne => by
  have h0 : 0 < vs.length := List.length_pos_iff.2 hne
  obtain ⟨b, o, rfl⟩ : ∃ b o, A = ⟨b, o, none⟩ := ⟨_, _, addr_none (h 0 h0)⟩
  exact ⟨b, o, rfl, fun i hi => by have := h i hi; rwa [addr_add] at this⟩
end
end Go.Proofs.YtloiaaolnfimgaaGreat
namespace Go.Proofs.YtloiaaolnfimgaaGreat
open Go.RowKit
theorem idxB0 {b o c : Nat} (W : World) : (Instr.indexAt 60 (.slice (some ⟨b, o, none⟩) 1 c) (.int .i64 0)).run Tryz.prog W = .ok (.pointer (some ⟨b, o, none⟩)) W := by
  go_simp
theorem loadByte {b o : Nat} {x : UInt8} {W : World} (hc : W.cell? ⟨b, o, none⟩ = some (byteV x)) : (Instr.loadAt 5 (.pointer (some ⟨b, o, none⟩))).run Tryz.prog W = .ok (byteV x) W := by
  go_simp
theorem grown_cell {w w' : World} {r b o : Nat} {v : Value} (hg : w.grownBy w' (some r)) (hne : b ≠ r) (hc : w.cell? ⟨b, o, none⟩ = some v) : w'.cell? ⟨b, o, none⟩ = some v :=
  (World.cell?_of_block (w := w) (a := ⟨b, o, none⟩) (hg.block b (block_lt_of_cell hc) (fun e => hne (Option.some.inj e)))).trans hc
end Go.Proofs.YtloiaaolnfimgaaGreat
namespace Go.Proofs.YtloiaaolnfimgaaGreat
open Go.RowKit
section
variable {P : Program} {ops : Array Oper} {rest : List Oper} {o : Oper} {a : Act} {w : World} {Q : Exit → Act → World → Prop}
theorem wpList_slice0 (hgd : o.guard = none) (T : TypeId) (x : Operand) (ho : o.op = .slice T x none none none) (vx : Value) (hx : a.eval x = vx) {v : Value} {w' : World} (hr : (Instr.sliceAt T vx none none none).run P w = .ok v w')
    (h : wpList P ops Q rest (a.put o.dst v) w') : wpList P ops Q (o :: rest) a w :=
  wpList_plain hgd fun _ hK => by
    unfold Oper.wp execOp
    simp only [ho, Sem.run_bind, Sem.run_pure, Result.andThen_ok, Option.map_none, hx, hr]
    exact hK _ _ h
theorem wpList_build (hgd : o.guard = none) (T : TypeId) (parts : Array (Nat × Operand)) (ho : o.op = .build T parts) (vs : Array (Nat × Value)) (hp : (parts.map fun (i, x) => (i, a.eval x)) = vs) {v : Value} {w' : World} (hr : (Instr.build T vs).run P w = .ok v w')
    (h : wpList P ops Q rest (a.put o.dst v) w') : wpList P ops Q (o :: rest) a w :=
  wpList_plain hgd fun _ hK => by
    unfold Oper.wp execOp
    simp only [ho, hp, Sem.run_bind, Sem.run_pure, Result.andThen_ok, hr]
    exact hK _ _ h
theorem results_cells2 {P : Program} {fn : Func} {p r q : Tmp} {ty ty2 : TypeId} (h : fn.results = #[.cell p ty, .cell r ty2, .tmp q]) {tmps : Array Value} {w : World} {g g2 : Nat} {t t2 : TypeId} {cs cs2 : Array Value} {d d2 : TypeDesc} {v : Value}
    (hp : tmps.getD p undef = .pointer (some ⟨g, 0, none⟩)) (hr : tmps.getD r undef = .pointer (some ⟨g2, 0, none⟩)) (hq : tmps.getD q undef = v) (hg : Row w g t cs) (hg2 : Row w g2 t2 cs2)
    (hu : P.underlying ty = some d) (hd : (match d with | .struct _ | .array _ _ => true | _ => false) = true) (hi : (P.info? ty).map (·.size) = some cs.size)
    (hu2 : P.underlying ty2 = some d2) (hd2 : (match d2 with | .struct _ | .array _ _ => true | _ => false) = true) (hi2 : (P.info? ty2).map (·.size) = some cs2.size) :
    (results fn tmps).run P w = .ok (.tuple #[.agg cs, .agg cs2, v]) w := by
  have hp' : tmps[p]?.getD undef = .pointer (some ⟨g, 0, none⟩) := by simpa using hp
  have hr' : tmps[r]?.getD undef = .pointer (some ⟨g2, 0, none⟩) := by simpa using hr
  have hq' : tmps[q]?.getD undef = v := by simpa using hq
  simp [results, h, hp', hr', hq', asAddr, run_loadVar_row w g t ty cs (0, 0) d hg hu hd hi, run_loadVar_row w g2 t2 ty2 cs2 (0, 0) d2 hg2 hu2 hd2 hi2]
end
theorem wbuildH0 (w : World) : (Instr.build 25 #[]).run Tryz.prog w = .ok (.agg (hC [])) w := by kernel_rfl
set_option maxRecDepth 100000 in
set_option maxHeartbeats 2000000 in
theorem refHashR_any (A : Option Addr) (n c : Nat) (l : List UInt8) (bad : Bool) (w : World) (hn : l.length = n) (hc : n ≤ c) (hcm : c ≤ 9223372036854775807) (hr : Rd w A l) :
    Calls Tryz.prog 41 #[.agg (rfV A n c bad)] w fun e w' => Later w w' ∧ ∃ v, e = .returned (.tuple #[v, .agg (hC (Wr.hashR l bad).2.1), .int .i64 (Wr.hashR l bad).2.2]) ∧ RefV A l v (Wr.hashR l bad).1.1 (Wr.hashR l bad).1.2 := by
  have k1 := ((Row.new w 89 (rfV A n c bad)).alloc (.cells (rfV none 0 0 false) 89)).alloc (.cells (hC []) 25)
  have k2 := (Row.new (w.alloc (.cells (rfV A n c bad) 89)) 89 (rfV none 0 0 false)).alloc (.cells (hC []) 25)
  have k3 := Row.new ((w.alloc (.cells (rfV A n c bad) 89)).alloc (.cells (rfV none 0 0 false) 89)) 25 (hC [])
  have hb := ((((Later.refl w).alloc (.cells (rfV A n c bad) 89)).alloc (.cells (rfV none 0 0 false) 89)).alloc (.cells (hC []) 25))
  refine Calls.post fun Φ HΦ => ?_
  go_enter Tryz.func41, Tryz.ntmps41
  go_upto_region 1 with (first
    | (with_reducible refine wpList_alloc rfl 89 rfl (allocRf _) ?_)
    | (with_reducible refine wpList_alloc rfl 25 rfl (allocH _) ?_)
    | fail)
  simp only [World.size_alloc] at k2 k3 ⊢
  obtain ⟨q, hq⟩ : ∃ q, q = w.heap.size := ⟨_, rfl⟩
  rw [← hq] at k1 k2 k3 ⊢
  generalize ((w.alloc (.cells (rfV A n c bad) 89)).alloc (.cells (rfV none 0 0 false) 89)).alloc (.cells (hC []) 25) = w1 at *
  have HQ := Lib.hid hq
  have HN := Lib.hid hn
  clear hq hn
  have hld := loadRf k1
  have htk := refTake_any A n c l bad 32 w1 HN.out hc (by omega) (by decide)
  have hr1 := hr.later hb
  by_cases hok : bad = false ∧ 32 ≤ n
  · obtain ⟨hbad, hn1⟩ := hok
    subst hbad
    have e1 : Wr.hashR l false = ((l.drop 32, false), l.take 32, 0) := by simp [Wr.hashR]; rw [HN.out]; exact hn1
    rw [e1] at HΦ
    clear e1
    go_upto_region 2 with (first
      | (refine wpList_load rfl 89 (.tmp 1) rfl (.pointer (some ⟨q, 0, none⟩)) rfl hld ?_)
      | (go_at_call 89; refine htk.mono ?_; clear htk; rintro e w2 ⟨hL2, ⟨_, _, D, rfl, hD⟩ | ⟨h, _⟩⟩; rotate_left; exact absurd h (by simp; omega); obtain ⟨w3, hst, k53, hg3⟩ := storeRf (A' := D) (n' := n - 32) (c' := c - 32) (bad' := false) (Row.new w2 89 (rfV none 0 0 false)))
      | (with_reducible refine wpList_alloc rfl 89 rfl (allocRf _) ?_)
      | (refine wpList_store rfl 89 (.tmp 5) (.tmp 12) rfl (.pointer (some ⟨w2.heap.size, 0, none⟩)) (.agg (rfV D (n - 32) (c - 32) false)) rfl rfl hst ?_)
      | fail)
    obtain ⟨q5, hq5⟩ : ∃ q, q = w2.heap.size := ⟨_, rfl⟩
    have hL23 : Later w2 w3 := ((Later.refl w2).alloc (.cells (rfV none 0 0 false) 89)).grown hg3 (by simp) (fun j e => by cases e; omega)
    have k8 := Row.new w3 25 (hC [])
    have k23 := (k2.later (hL2.step hL23)).alloc (.cells (hC []) 25)
    have k33 := (k3.later (hL2.step hL23)).alloc (.cells (hC []) 25)
    have hb3 := (hb.step (hL2.step hL23)).alloc (.cells (hC []) 25)
    have hr3 := ((hr1.later (hL2.step hL23)).alloc (.cells (hC []) 25))
    have hlt5 := k53.lt
    have hlt3 := (k3.later hL2).lt
    have k53a := k53.alloc (.cells (hC []) 25)
    rw [← hq5] at k53 k53a hg3 hlt5 ⊢
    have hlt33 := (k3.later (hL2.step hL23)).lt
    clear hst hld k1 k53 hL23 hr1 hg3
    have H55 := Lib.hid hq5
    clear hq5
    go_upto_region 5 with (first
      | (with_reducible refine wpList_alloc rfl 25 rfl (allocH _) ?_)
      | fail)
    obtain ⟨q8, hq8⟩ : ∃ q, q = w3.heap.size := ⟨_, rfl⟩
    rw [← hq8] at k8 hlt5 hlt33 ⊢
    generalize w3.alloc (.cells (hC []) 25) = w4 at *
    have H85 := Lib.hid hq8
    clear hq8
    go_upto_region 6 with (first
      | (refine wpList_slice0 rfl 25 (.tmp 8) rfl (.pointer (some ⟨q8, 0, none⟩)) rfl (sliceHash w4) ?_)
      | (refine wpList_copy_rd rfl (.tmp 20) (.tmp 21) 60 60 rfl 5 Tryz.underlying60 (by kernel_rfl) q8 0 32 32 A 32 c (l.take 32) (by rw [List.length_take, HN.out]; omega) (Rd.take hr3 32) rfl rfl _ _ k8 32 (by decide) (by rw [hC_size _ (by decide)]; decide) ?_; intro w5 k85 hg5)
      | fail)
    rw [show (l.take 32).take 32 = l.take 32 by rw [List.take_take]; rfl, whC_set l (by rw [HN.out]; omega)] at k85
    have hne : ∀ k, k < q8 → some k ≠ some q8 := fun k h e => by have := Option.some.inj e; omega
    have k55 := k53a.grown hg5 (hne q5 hlt5)
    have k25 := k23.grown hg5 (hne (q + 1) (by omega))
    have k35 := k33.grown hg5 (hne (q + 1 + 1) (by omega))
    have hb5 : Later w w5 := hb3.grown hg5 hb3.size (fun j e => by cases e; have := HQ.out; omega)
    have h25 : q5 ≠ q + 1 := by have := H55.out; omega
    have h35 : q5 ≠ q + 1 + 1 := by have := H55.out; omega
    have h28 : q8 ≠ q + 1 := by omega
    have h38 : q8 ≠ q + 1 + 1 := by omega
    have hqw : ∀ j, some (q + 1) = some j → w.heap.size ≤ j := fun j e => by cases e; have := HQ.out; omega
    have hqw2 : ∀ j, some (q + 1 + 1) = some j → w.heap.size ≤ j := fun j e => by cases e; have := HQ.out; omega
    clear k53a k23 k33 hb3 hg5 hne hlt5 hlt3 hlt33 k8
    have hlen : (l.take 32).length = 32 := by rw [List.length_take, HN.out]; omega
    generalize hTT : l.take 32 = T at *
    refine (wpIn_wide (n := 0)).1 ?_
    refine wpIn_region_lastY wide_wide (fun f xs W => Later w W ∧ Row W q5 89 (rfV D (n - 32) (c - 32) false) ∧ Row W q8 25 (hC T) ∧ (f 0 = true → xs 0 = .agg (rfV D (n - 32) (c - 32) false)) ∧ (f 1 = true → xs 1 = .agg (hC T)) ∧ Row W (q + 1) 89 (if f 2 then rfV D (n - 32) (c - 32) false else rfV none 0 0 false) ∧ Row W (q + 1 + 1) 25 (if f 3 then hC T else hC [])) ⟨hb5.drew, k55.drew, k85.drew, by simp, by simp, k25.drew, k35.drew⟩ (by kernel_rfl) (by kernel_rfl) (by kernel_rfl) (by kernel_rfl) (by kernel_rfl) (by kernel_rfl) rfl ⟨?_, ?_, ?_, ?_, trivial⟩ ?_
    · intro a W f xs hI he
      obtain ⟨i0, i1, i2, i3, i4, i5, i6⟩ := hI
      refine stepOkY_later rfl ?_ (op_load (R := fun v W' => v = .agg (rfV D (n - 32) (c - 32) false)) rfl (he.keep (.tmp 5) (by kernel_rfl)) (loadRf i1) rfl)
      rintro v W' hL rfl
      exact ⟨i0.step hL, i1.later hL, i2.later hL, fun _ => rfl, fun h => i4 h, i5.later hL, i6.later hL⟩
    · intro a W f xs hI he
      obtain ⟨i0, i1, i2, i3, i4, i5, i6⟩ := hI
      refine stepOkY_later rfl ?_ (op_load (R := fun v W' => v = .agg (hC T)) rfl (he.keep (.tmp 8) (by kernel_rfl)) (loadH hlen i2) rfl)
      rintro v W' hL rfl
      exact ⟨i0.step hL, i1.later hL, i2.later hL, fun h => i3 h, fun _ => rfl, i5.later hL, i6.later hL⟩
    · intro a W f xs hI he
      obtain ⟨i0, i1, i2, i3, i4, i5, i6⟩ := hI
      have hf2 : f 2 = false := he.todo
      have hf0 : f 0 = true := he.done 0 (by kernel_rfl)
      have e0 : a.eval (.tmp 23) = .agg (rfV D (n - 32) (c - 32) false) := (he.val 0 23 (by kernel_rfl) rfl).trans (i3 hf0)
      rw [hf2] at i5
      obtain ⟨W', hst, hrow', hg'⟩ := storeRf (A' := D) (n' := n - 32) (c' := c - 32) (bad' := false) i5
      exact stepOkY_want rfl (op_storeK rfl (he.keep (.tmp 2) (by kernel_rfl)) e0 hst ⟨_, rfl, i0.grown hg' i0.size hqw, i1.grown hg' (fun e => h25 (Option.some.inj e)), i2.grown hg' (fun e => h28 (Option.some.inj e)), fun h => i3 h, fun h => i4 h, hrow', i6.grown hg' (by simp)⟩)
    · intro a W f xs hI he
      obtain ⟨i0, i1, i2, i3, i4, i5, i6⟩ := hI
      have hf3 : f 3 = false := he.todo
      have hf1 : f 1 = true := he.done 1 (by kernel_rfl)
      have e1 : a.eval (.tmp 24) = .agg (hC T) := (he.val 1 24 (by kernel_rfl) rfl).trans (i4 hf1)
      rw [hf3] at i6
      obtain ⟨W', hst, hrow', hg'⟩ := storeH (a := []) (b := T) (by simp) (by omega) i6
      exact stepOkY_want rfl (op_storeK rfl (he.keep (.tmp 3) (by kernel_rfl)) e1 hst ⟨_, rfl, i0.grown hg' i0.size hqw2, i1.grown hg' (fun e => h35 (Option.some.inj e)), i2.grown hg' (fun e => h38 (Option.some.inj e)), fun h => i3 h, fun h => i4 h, i5.grown hg' (by simp), hrow'⟩)
    · intro f xs W hI hd _ hk hgt
      obtain ⟨i0, i1, i2, i3, i4, i5, i6⟩ := hI
      have f2 := hd 2 (by decide)
      have f3 := hd 3 (by decide)
      rw [f2] at i5
      rw [f3] at i6
      refine last_assign (vx := .int .i64 0) rfl rfl ?_
      clear hk hgt
      simp only [initL, lastL, putL, Nat.reduceAdd, Act.put, List.setIfInBounds_toArray, List.set_cons_succ, List.set_cons_zero]
      go_wp2_with fail
      exact bodyPost_ret (results_cells2 rfl rfl rfl rfl i5 i6 Tryz.underlying89 rfl infoRf Tryz.underlying25 rfl (by rw [if_pos trivial, hC_size T (by omega)]; exact infoH)) rfl (HΦ.out _ _ ⟨i0, _, rfl, D, c - 32, by rw [List.length_drop, HN.out]; rfl, by rw [List.length_drop, HN.out]; omega, by omega, fun X h => hD X h⟩)
  · have e1 : Wr.hashR l bad = ((l, true), [], 140) := by
      unfold Wr.hashR
      cases bad
      · have h0 : ¬ 32 ≤ l.length := fun h => hok ⟨rfl, by rw [← HN.out]; exact h⟩
        simp [h0]
      · rfl
    rw [e1] at HΦ
    clear e1
    go_upto_region 3 with (first
      | (refine wpList_load rfl 89 (.tmp 1) rfl (.pointer (some ⟨q, 0, none⟩)) rfl hld ?_)
      | (go_at_call 89; refine htk.mono ?_; clear htk; rintro e w2 ⟨hL2, ⟨h1, h2, _⟩ | ⟨_, rfl⟩⟩; exact absurd ⟨h1, h2⟩ hok; obtain ⟨w3, hst, k53, hg3⟩ := storeRf (A' := A) (n' := n) (c' := c) (bad' := true) (Row.new w2 89 (rfV none 0 0 false)))
      | (with_reducible refine wpList_alloc rfl 89 rfl (allocRf _) ?_)
      | (refine wpList_store rfl 89 (.tmp 5) (.tmp 12) rfl (.pointer (some ⟨w2.heap.size, 0, none⟩)) (.agg (rfV A n c true)) rfl rfl hst ?_)
      | fail)
    have hL23 : Later w2 w3 := ((Later.refl w2).alloc (.cells (rfV none 0 0 false) 89)).grown hg3 (by simp) (fun j e => by cases e; omega)
    have k23 := k2.later (hL2.step hL23)
    have k33 := k3.later (hL2.step hL23)
    have hb3 := hb.step (hL2.step hL23)
    obtain ⟨w4, hst4, k24, hg4⟩ := storeRf (A' := A) (n' := n) (c' := c) (bad' := true) k23
    have k34 := k33.grown hg4 (by simp)
    obtain ⟨w5, hst5, k35, hg5⟩ := storeH (a := []) (b := []) (by simp) (by simp) k34
    have k25 := k24.grown hg5 (by simp)
    have hb4 := hb3.grown hg4 hb3.size (fun j e => by cases e; have := HQ.out; omega)
    have hb5 := hb4.grown hg5 hb4.size (fun j e => by cases e; have := HQ.out; omega)
    have hld5 := loadRf k53
    have H5 := Lib.hid hb5
    clear hst hg3 hL23 hg4 hg5 hb4 hb5
    go_wp2_with (first
      | (refine wpList_load rfl 89 (.tmp 5) rfl (.pointer (some ⟨w2.heap.size, 0, none⟩)) rfl hld5 ?_)
      | (refine wpList_build rfl 25 #[] rfl #[] rfl (wbuildH0 _) ?_)
      | (refine wpList_store rfl 89 (.tmp 2) (.tmp 17) rfl (.pointer (some ⟨q + 1, 0, none⟩)) (.agg (rfV A n c true)) rfl rfl hst4 ?_)
      | (refine wpList_store rfl 25 (.tmp 3) (.tmp 18) rfl (.pointer (some ⟨q + 1 + 1, 0, none⟩)) (.agg (hC [])) rfl rfl hst5 ?_)
      | fail)
    exact bodyPost_ret (results_cells2 rfl rfl rfl rfl k25 k35 Tryz.underlying89 rfl infoRf Tryz.underlying25 rfl (by rw [hC_size [] (by decide)]; exact infoH)) rfl (HΦ.out _ _ ⟨H5.out, _, rfl, A, c, by rw [← HN.out], by rw [← HN.out] at hc; exact hc, by omega, fun _ h => h⟩)
end Go.Proofs.YtloiaaolnfimgaaGreat
namespace Go.Proofs.YtloiaaolnfimgaaGreat
open Go.RowKit
theorem Rd.grown_rf {w w' : World} {q : Nat} {t : TypeId} {A D : Option Addr} {n c : Nat} {bad : Bool} {T : List UInt8} (h : Rd w D T) (hr : Row w q t (rfV A n c bad)) (hg : w.grownBy w' (some q)) : Rd w' D T := h.grown hg fun b o e hne e2 => by
  subst e
  obtain ⟨b', o', e', hc'⟩ := h hne
  have h9 := hc' 0 (List.length_pos_iff.2 hne)
  injection e' with e'
  injection e' with e1 e3
  subst e1
  exact rf_no_byte hr h9 (Option.some.inj e2)
theorem Wr.textR_no {l : List UInt8} {bad : Bool} {most : Int} (h : (Wr.numR l bad most).2.2 ≠ 0) : Wr.textR l bad most = ((Wr.numR l bad most).1, [], (Wr.numR l bad most).2.2) := by
  unfold Wr.numR at h
  unfold Wr.textR Wr.numR
  cases bad
  · by_cases h0 : most < 0
    · simp [h0]
    · by_cases hm : Wr.may l most
      · simp [h0, hm] at h
      · simp [h0, hm, Wr.textOk]
  · simp
theorem Wr.numR_yes {l : List UInt8} {bad : Bool} {most : Int} (h : (Wr.numR l bad most).2.2 = 0) : bad = false ∧ ¬ most < 0 ∧ Wr.may l most ∧ Wr.numR l bad most = ((l.drop (Wr.first l).2.toNat, false), ((Wr.first l).1 : Int), 0) := by
  unfold Wr.numR at h ⊢
  cases bad
  · by_cases h0 : most < 0
    · simp [h0] at h
    · by_cases hm : Wr.may l most
      · simp [h0, hm]
      · simp [h0, hm] at h
  · simp at h
set_option maxRecDepth 100000 in
set_option maxHeartbeats 2000000 in
theorem refTextR_any (A : Option Addr) (n c : Nat) (l : List UInt8) (bad : Bool) (most : Int) (w : World) (hn : l.length = n) (hc : n ≤ c) (hcm : c ≤ 9223372036854775807) (hnm : n ≤ 9223372036854775000) (hr : Rd w A l) :
    Calls Tryz.prog 43 #[.agg (rfV A n c bad), .int .i64 most] w fun e w' => Later w w' ∧ ∃ v, e = .returned (.tuple #[v, .string ⟨(Wr.textR l bad most).2.1.toArray⟩, .int .i64 (Wr.textR l bad most).2.2]) ∧ RefV A l v (Wr.textR l bad most).1.1 (Wr.textR l bad most).1.2 := by
  have k2 := (Row.new w 89 (rfV A n c bad)).alloc (.cells (rfV none 0 0 false) 89)
  have k4 := Row.new (w.alloc (.cells (rfV A n c bad) 89)) 89 (rfV none 0 0 false)
  have hb := (((Later.refl w).alloc (.cells (rfV A n c bad) 89)).alloc (.cells (rfV none 0 0 false) 89))
  refine Calls.post fun Φ HΦ => ?_
  go_enter Tryz.func43, Tryz.ntmps43
  go_upto_region 1 with (first
    | (with_reducible refine wpList_alloc rfl 89 rfl (allocRf _) ?_)
    | fail)
  simp only [World.size_alloc] at k4 ⊢
  obtain ⟨q, hq⟩ : ∃ q, q = w.heap.size := ⟨_, rfl⟩
  rw [← hq] at k2 k4 ⊢
  generalize (w.alloc (.cells (rfV A n c bad) 89)).alloc (.cells (rfV none 0 0 false) 89) = w1 at *
  have HQ := Lib.hid hq
  have HN := Lib.hid hn
  clear hq hn
  have hld := loadRf k2
  have hr1 := hr.later hb
  have hnum := refNumberR_any A n c l bad most w1 HN.out hc (by omega) hnm hr1
  have hno := @Wr.textR_no l bad most
  have hyes := @Wr.numR_yes l bad most
  obtain ⟨R, hR⟩ : ∃ R, Wr.numR l bad most = R := ⟨_, rfl⟩
  rw [hR] at hnum hno hyes
  obtain ⟨⟨l', bad'⟩, x, no⟩ := R
  simp only at hno hyes hnum
  have HNO := Lib.hid hno
  have HYES := Lib.hid hyes
  clear hno hyes hR
  go_upto_region 2 with (first
    | (refine wpList_load rfl 89 (.tmp 2) rfl (.pointer (some ⟨q, 0, none⟩)) rfl hld ?_)
    | (go_at_call 42; refine hnum.mono ?_; clear hnum; rintro e w2 ⟨hL2, v, rfl, D, c2, rfl, hcc, hcm2, hD⟩; obtain ⟨w3, hst, k73, hg3⟩ := storeRf (A' := D) (n' := l'.length) (c' := c2) (bad' := bad') (Row.new w2 89 (rfV none 0 0 false)))
    | (with_reducible refine wpList_alloc rfl 89 rfl (allocRf _) ?_)
    | (refine wpList_store rfl 89 (.tmp 7) (.tmp 15) rfl (.pointer (some ⟨w2.heap.size, 0, none⟩)) (.agg (rfV D l'.length c2 bad')) rfl rfl hst ?_)
    | fail)
  have hL23 : Later w2 w3 := ((Later.refl w2).alloc (.cells (rfV none 0 0 false) 89)).grown hg3 (by simp) (fun j e => by cases e; omega)
  have k43 := k4.later (hL2.step hL23)
  have k23 := k2.later (hL2.step hL23)
  have hb3 := hb.step (hL2.step hL23)
  have hlt4 := (k4.later hL2).lt
  obtain ⟨q7, hq7⟩ : ∃ q, q = w2.heap.size := ⟨_, rfl⟩
  rw [← hq7] at k73 hlt4 ⊢
  have hld7 := loadRf k73
  have h47 : q7 ≠ q + 1 := by omega
  have h27 : q ≠ q7 := by omega
  have hr3 := hr1.later (hL2.step hL23)
  have hqw : ∀ j, some (q + 1) = some j → w.heap.size ≤ j := fun j e => by cases e; have := HQ.out; omega
  have hq7w : ∀ j, some q7 = some j → w.heap.size ≤ j := fun j e => by cases e; have := HQ.out; have := hlt4; omega
  clear hst hg3 hld k2 k4 hb hr1 hL23 hlt4 hL2
  have H7 := Lib.hid hq7
  clear hq7
  by_cases h0 : no = 0
  · subst h0
    obtain ⟨hbad, hm0, hmay, hnr⟩ := HYES.out rfl
    subst hbad
    simp only [Prod.mk.injEq, and_true] at hnr
    obtain ⟨⟨rfl, rfl⟩, rfl⟩ := hnr
    obtain ⟨hf1, hf2, hf3⟩ := Wr.first_le l
    have hx : Wr.textR l false most = if Wr.textOk l most then ((Wr.textRest l, false), Wr.textAt l, 0) else ((l, true), [], 140) := by unfold Wr.textR; rw [if_neg (by simp), if_neg (by omega)]
    have hok : Wr.textOk l most = decide ((Wr.first l).1 ≤ l.length - (Wr.first l).2.toNat) := by simp [Wr.textOk, hmay]
    have hat : Wr.textAt l = (l.drop (Wr.first l).2.toNat).take (Wr.first l).1 := rfl
    have hre : Wr.textRest l = (l.drop (Wr.first l).2.toNat).drop (Wr.first l).1 := rfl
    rw [hx, hok] at HΦ
    generalize Wr.textAt l = T at *
    generalize Wr.textRest l = S at *
    have hll : (l.drop (Wr.first l).2.toNat).length = n - (Wr.first l).2.toNat := by rw [List.length_drop, HN.out]
    rw [← List.length_drop] at HΦ
    generalize Wr.first l = F at *
    obtain ⟨f, s⟩ := F
    simp only at hf1 hf2 hf3 hat hre hll HΦ k73 hld7 hcc hD ⊢
    generalize hdl : l.drop s.toNat = dl at *
    clear hx hok hmay HYES HNO hnm
    have htk := refTake_any D dl.length c2 dl false f w3 rfl hcc (by omega) (by omega)
    have hrd := hD _ hr3
    have HAT := Lib.hid hat
    have HRE := Lib.hid hre
    have HD := Lib.hid hD
    have HLL := Lib.hid hll
    clear hat hre hdl hll hf1 hf2 hf3 hm0 hD
    by_cases hf : f ≤ dl.length
    · rw [if_pos (decide_eq_true hf)] at HΦ
      go_upto_region 5 with (first
        | (refine wpList_load rfl 89 (.tmp 7) rfl (.pointer (some ⟨q7, 0, none⟩)) rfl hld7 ?_)
        | (go_at_call 89; refine htk.mono ?_; clear htk; rintro e w4 ⟨hL4, ⟨_, _, D2, rfl, hD2⟩ | ⟨h, _⟩⟩; rotate_left; exact absurd h (by simp; omega); obtain ⟨w5, hst, k75, hg5⟩ := storeRf (A' := D2) (n' := dl.length - f) (c' := c2 - f) (bad' := false) (k73.later hL4))
        | (refine wpList_store rfl 89 (.tmp 7) (.tmp 26) rfl (.pointer (some ⟨q7, 0, none⟩)) (.agg (rfV D2 (dl.length - f) (c2 - f) false)) rfl rfl hst ?_)
        | fail)
      have k45 := (k43.later hL4).grown hg5 (fun e => h47 (Option.some.inj e).symm)
      have hb4 := hb3.step hL4
      have hb5 : Later w w5 := hb4.grown hg5 hb4.size hq7w
      have hrd5 : Rd w5 D T := by
        rw [HAT.out]
        exact Rd.take ((hrd.later hL4).grown_rf (k73.later hL4) hg5) f
      have hTl : T.length = f := by rw [HAT.out, List.length_take]; omega
      have hSl : S.length = dl.length - f := by rw [HRE.out, List.length_drop]
      have hmv : RefV A l (.agg (rfV D2 (dl.length - f) (c2 - f) false)) S false := ⟨D2, c2 - f, by rw [hSl], by rw [hSl]; omega, by omega, fun X h => by rw [HRE.out]; exact hD2 X (HD.out X h)⟩
      have HMV := Lib.hid hmv
      have HST := Lib.hid hTl
      clear hst hg5 hb4 hmv hld7 k23 hL4 hTl hSl hD2 hrd hr3
      go_upto_region 7 with fail
      refine (wpIn_wide (n := 0)).1 ?_
      refine wpIn_region_pivot wide_wide 3 [.agg (rfV D2 (dl.length - f) (c2 - f) false), .slice D f c2, .string ⟨T.toArray⟩, undef, .string ⟨T.toArray⟩] (fun W => Later w5 W) (fun y W => Later w W ∧ Row W q7 89 (rfV D2 (dl.length - f) (c2 - f) false) ∧ Row W (q + 1) 89 (rfV D2 (dl.length - f) (c2 - f) false) ∧ Rd W D T) (fun W W' h k => k.step h) (fun y W W' h k => ⟨k.1.step h, k.2.1.later h, k.2.2.1.later h, k.2.2.2.later h⟩) (Later.refl _) (by kernel_rfl) (by kernel_rfl) (by kernel_rfl) (by kernel_rfl) (by kernel_rfl) (by kernel_rfl) rfl (by kernel_rfl) (by kernel_rfl) ⟨?_, ?_, ?_, ?_, ?_, trivial⟩ ?_
      · exact fun ac W dd xx he => stepOk_want rfl (op_load rfl (he.keep (.tmp 7) (by kernel_rfl)) (loadRf (he.both (C := fun W => Row W q7 89 (rfV D2 (dl.length - f) (c2 - f) false)) (fun W h => k75.later h) (fun y W h => h.2.1))) rfl)
      · exact fun ac W dd xx he => stepOk_want rfl (op_move rfl (he.keep (.tmp 10) (by kernel_rfl)))
      · exact fun ac W dd xx he => stepOk_want rfl (op_convert rfl (show ac.eval (.tmp 36) = .slice D f c2 from he.val 1 36 (by kernel_rfl) rfl rfl) (run_string_rd (P := Tryz.prog) W 60 9 5 D f c2 T Tryz.underlying60 Tryz.underlying5 Tryz.underlying9 HST.out (he.both (C := fun W => Rd W D T) (fun W h => hrd5.later h) (fun y W h => h.2.2.2))) (Later.refl _) rfl)
      · intro ac W he hA; refine ⟨rfl, ?_⟩; have e4 := (he.keep (.tmp 4) (by kernel_rfl)); have e35 := (show ac.eval (.tmp 35) = .agg (rfV D2 (dl.length - f) (c2 - f) false) from he.val 0 35 (by kernel_rfl) rfl rfl); obtain ⟨W', hst, hrow', hg'⟩ := storeRf (A' := D2) (n' := dl.length - f) (c' := c2 - f) (bad' := false) (k45.later hA); exact op_storeK rfl e4 e35 hst ⟨_, rfl, (hb5.step hA).grown hg' (hb5.step hA).size hqw, (k75.later hA).grown hg' (fun e => h47 (Option.some.inj e)), hrow', (hrd5.later hA).grown_rf (k45.later hA) hg'⟩
      · exact fun ac W dd xx he => stepOk_want rfl (op_assign rfl (show ac.eval (.tmp 37) = .string ⟨T.toArray⟩ from he.val 2 37 (by kernel_rfl) rfl rfl))
      · intro xs W y hB hx hk hg
        refine last_assign (vx := .int .i64 0) rfl rfl ?_
        have e4 := hx 4 (by decide)
        obtain ⟨hB1, _, hB3, _⟩ := hB
        clear hx hk hg
        simp only [initL, lastL, putL, Nat.reduceAdd, Act.put, List.setIfInBounds_toArray, List.set_cons_succ, List.set_cons_zero]
        rw [e4]
        go_wp2_with fail
        exact bodyPost_ret (results_cell_tmp2 rfl _ _ (q + 1) 89 (rfV D2 (dl.length - f) (c2 - f) false) (0, 0) _ (.string ⟨T.toArray⟩) (.int .i64 0) rfl rfl rfl hB3 Tryz.underlying89 rfl infoRf) rfl (HΦ.out _ _ ⟨hB1, _, rfl, HMV.out⟩)
    · rw [if_neg (by simpa using hf)] at HΦ
      go_upto_region 5 with (first
        | (refine wpList_load rfl 89 (.tmp 7) rfl (.pointer (some ⟨q7, 0, none⟩)) rfl hld7 ?_)
        | (go_at_call 89; refine htk.mono ?_; clear htk; rintro e w4 ⟨hL4, ⟨_, h, _⟩ | ⟨_, rfl⟩⟩; exact absurd h hf; obtain ⟨w5, hst, k75, hg5⟩ := storeRf (A' := D) (n' := dl.length) (c' := c2) (bad' := true) (k73.later hL4))
        | (refine wpList_store rfl 89 (.tmp 7) (.tmp 26) rfl (.pointer (some ⟨q7, 0, none⟩)) (.agg (rfV D dl.length c2 true)) rfl rfl hst ?_)
        | fail)
      have k45 := (k43.later hL4).grown hg5 (fun e => h47 (Option.some.inj e).symm)
      have k25 := (k23.later hL4).grown hg5 (fun e => h27 (Option.some.inj e))
      have c25 : w5.cell? ⟨q, 0, none⟩ = some (.slice A n c) := (k25.cell 0).trans rfl
      have hb4 := hb3.step hL4
      have hb5 : Later w w5 := hb4.grown hg5 hb4.size hq7w
      obtain ⟨w6, hst6, k46, hg6⟩ := storeRf (A' := A) (n' := n) (c' := c) (bad' := true) k45
      have hb6 := hb5.grown hg6 hb5.size hqw
      have H6 := Lib.hid hb6
      clear hst hg5 hg6 hb4 hb5 hb6
      go_wp2_with (first
        | (refine wpList_store rfl 89 (.tmp 4) (.tmp 33) rfl (.pointer (some ⟨q + 1, 0, none⟩)) (.agg (rfV A n c true)) rfl rfl hst6 ?_)
        | fail)
      exact bodyPost_ret (results_cell_tmp2 rfl _ _ (q + 1) 89 (rfV A n c true) (0, 0) _ (.string ⟨#[]⟩) (.int .i64 140) rfl rfl rfl k46 Tryz.underlying89 rfl infoRf) rfl (HΦ.out _ _ ⟨H6.out, _, rfl, A, c, by rw [← HN.out], by rw [← HN.out] at hc; exact hc, by omega, fun _ h => h⟩)
  · have e1 := HNO.out h0
    rw [e1] at HΦ
    obtain ⟨w4, hst4, k44, hg4⟩ := storeRf (A' := D) (n' := l'.length) (c' := c2) (bad' := bad') k43
    have hb4 := hb3.grown hg4 hb3.size hqw
    have H4 := Lib.hid hb4
    have hd : (no == 0) = false := by simpa using h0
    clear hg4 hb4 e1
    go_wp2_with (first
      | (refine wpList_load rfl 89 (.tmp 7) rfl (.pointer (some ⟨q7, 0, none⟩)) rfl hld7 ?_)
      | (refine wpList_store rfl 89 (.tmp 4) (.tmp 20) rfl (.pointer (some ⟨q + 1, 0, none⟩)) (.agg (rfV D l'.length c2 bad')) rfl rfl hst4 ?_)
      | fail)
    exact bodyPost_ret (results_cell_tmp2 rfl _ _ (q + 1) 89 (rfV D l'.length c2 bad') (0, 0) _ (.string ⟨#[]⟩) (.int .i64 no) rfl rfl rfl k44 Tryz.underlying89 rfl infoRf) rfl (HΦ.out _ _ ⟨H4.out, _, rfl, D, c2, rfl, hcc, hcm2, hD⟩)
end Go.Proofs.YtloiaaolnfimgaaGreat
namespace Go.Proofs.YtloiaaolnfimgaaGreat
open Go.RowKit
def Low {β : Type} (C : Nat → Prop) (B : Nat) (J : β → World → Prop) : Prop := ∀ s X Y, J s X → Same (fun k => k < B ∧ ¬ C k) X Y → J s Y
theorem Low.below {β : Type} {C : Nat → Prop} {B : Nat} {J : β → World → Prop} (h : Low C B J) {s : β} {X Y : World} (hs : J s X) (hb : Below B X Y) : J s Y := h s X Y hs ((Same.of_below hb).mono fun k hk => hk.1)
def SeqW {α : Type} (F : Fence) (n : Nat) (P : Program) (g : Nat) (lb : Array Value) (encs : α → Array Value) (Kp : α → World → World → Prop) (S Sp : List α → Prop) (Ok : List α → α → World → Prop) (C : Nat → Prop) (W : World) : Prop :=
  ∀ (l : Nat) (J Jx : List α → World → Prop) (W1 : World), Below W.heap.size W W1 → W.heap.size + 2 ≤ W1.heap.size → Low C W1.heap.size J → Low C W1.heap.size Jx →
    (∀ pre x X, J pre X → Ok pre x X → YieldAt F (n - 1) P l (encs x) X fun e Y => (e = .returned (.bool true) ∧ J (pre ++ [x]) Y ∧ Kp x X Y) ∨ (e = .returned (.bool false) ∧ Jx (pre ++ [x]) Y ∧ Kp x X Y)) →
    J [] W1 → CallsIn F n P g (#[.func (.yield l) #[] #[]] ++ lb) W1 fun e Y => (∃ v, e = .returned v) ∧ ((∃ xs, S xs ∧ J xs Y) ∨ ∃ pre, Sp pre ∧ Jx pre Y)
def leftW {α : Type} (B : Nat) (Kp : World → World → Prop) (I : List α → World → Prop) (Ix : Code → List α → World → Prop) (xs : List α) (W : World) : Exit → Act → World → Prop
  | .normal, _, Y => KeepsFrom B W Y ∧ Kp W Y ∧ I xs Y
  | .ret, _, Y => KeepsFrom B W Y ∧ Kp W Y ∧ Ix .ret xs Y
  | .exit id, _, Y => KeepsFrom B W Y ∧ Kp W Y ∧ Ix (.exit id) xs Y
  | .goto t, _, Y => KeepsFrom B W Y ∧ Kp W Y ∧ Ix (.goto t) xs Y
  | .panic _, _, _ => False
  | .outgrown, _, _ => False
theorem below_put (B : Nat) (X : World) (l : Nat) (o : Obj) (hl : B ≤ l) (hs : B ≤ X.heap.size) : Below B X (X.putObj l o) :=
  (Below.refl B X).grown (grownBy_putObj' X l o) hs (fun k e => by cases e; exact hl)
section
variable {F : Fence} {n : Nat} {P : Program}
theorem wpIn_range_W {α : Type} {g : Operand} {ps : Array Tmp} {assign body : Code} {Q : Exit → Act → World → Prop} {a : Act} {w : World}
    (hro : F.round = none) (h1 : 1 ≤ n) {gf : Nat} {lb : Array Value} (hg : a.eval g = .func (.func gf) #[] lb) (hFg : F.fn gf) (eg : ∀ args w, (callFunc gf args).run P w = .ok (.enter gf args) w)
    {encs : α → Array Value} {Kp : α → World → World → Prop} {S Sp : List α → Prop} {Ok : List α → α → World → Prop} {C : Nat → Prop} {w0 : World} (hseq : SeqW F (n - 1) P gf lb encs Kp S Sp Ok C w0) (hC : ∀ r, C r → r < w.heap.size)
    (hKt : ∀ {x : α} {A B D : World}, Kp x A B → Kp x B D → Kp x A D) (hKb : ∀ (x : α) (W : World) (o : Obj), Kp x W (W.putObj (w.heap.size + 1) o)) (hb0 : Below w0.heap.size w0 w) (hps : ∀ x, (encs x).size = ps.size)
    (I : List α → World → Prop) (Ix : Code → List α → World → Prop) (hI : Low C w.heap.size I) (hIx : ∀ c, Low C w.heap.size (Ix c)) (h0 : I [] w)
    (Ax : List α → α → Act → World → Prop) (hAx : ∀ pre x a' W o, Ax pre x a' W → Ax pre x a' (W.putObj (w.heap.size + 1) o))
    (hassign : ∀ (l : Nat) (pre : List α) (x : α) (W : World) (K : Act → World → Prop), w.heap.size + 2 ≤ W.heap.size → I pre W → Ok pre x W → (∀ a' Y, KeepsFrom w.heap.size W Y → Kp x W Y → I pre Y → Ax pre x a' Y → K a' Y) →
      assign.wpIn (F.inRound l) (n - 1 - 1) P (Exit.then K (fun _ _ _ => False)) { tmps := (ps.zip (encs x)).foldl (fun t (p, v) => t.setIfInBounds p v) a.tmps, defers := [] } W)
    (hbody : ∀ (l : Nat) (pre : List α) (x : α) (a' : Act) (W : World), w.heap.size ≤ l → (∃ r, W.heap[l]? = some (.loop r)) → w.heap.size + 2 ≤ W.heap.size → I pre W → Ax pre x a' W → body.wpIn (F.inRound l) (n - 1 - 1) P (leftW w.heap.size (Kp x) I Ix (pre ++ [x]) W) a' W)
    (hdone : ∀ (D : Nat) (xs : List α) (W : World), w.heap.size ≤ D → S xs → I xs W → W.heap[D]? = some (.deferred (some [])) → Q .normal { a with defers := { target := .collected D, args := #[] } :: a.defers } W)
    (hstop : ∀ (D : Nat) (c : Code) (pre : List α) (W : World), w.heap.size ≤ D → Sp pre → Ix c pre W → W.heap[D]? = some (.deferred (some [])) → c.wpIn F n P Q { a with defers := { target := .collected D, args := #[] } :: a.defers } W) :
    (Code.rangeFunc g ps assign body).wpIn F n P Q a w := by
  refine wpIn_rangeFunc fun fn hfn => ?_
  rw [hro]
  have book1 : Booked (bookOf fn a.tmps ps assign body w.heap.size) w.heap.size .ready none ((w.alloc (.deferred (some []))).alloc (.loop (bookOf fn a.tmps ps assign body w.heap.size .ready none))) := by
    refine ⟨?_, (Below.heap_alloc _ _ _ (by simp)).trans (World.alloc_heap_new w _)⟩
    have := World.alloc_heap_new (w.alloc (.deferred (some []))) (.loop (bookOf fn a.tmps ps assign body w.heap.size .ready none))
    rwa [World.size_alloc] at this
  have hbw : Below w.heap.size w ((w.alloc (.deferred (some []))).alloc (.loop (bookOf fn a.tmps ps assign body w.heap.size .ready none))) :=
    (((Below.refl _ w).alloc (Nat.le_refl _) _).alloc (by simp) _)
  have hb1 : Below w0.heap.size w0 ((w.alloc (.deferred (some []))).alloc (.loop (bookOf fn a.tmps ps assign body w.heap.size .ready none))) := hb0.trans (hbw.mono hb0.size)
  have hi1 := hI.below h0 hbw
  have hsz1 : ((w.alloc (.deferred (some []))).alloc (.loop (bookOf fn a.tmps ps assign body w.heap.size .ready none))).heap.size = w.heap.size + 2 := by simp
  have henter := run_enterLoop_outer (P := P) (w := w) fn a.tmps ps assign body
  generalize hW1 : (w.alloc (.deferred (some []))).alloc (.loop (bookOf fn a.tmps ps assign body w.heap.size .ready none)) = W1 at book1 hb1 hi1 hsz1
  refine ⟨w.heap.size + 1, [{ target := .collected w.heap.size, args := #[] }], W1, { target := .fn (.func gf) lb, args := #[.func (.yield (w.heap.size + 1)) #[] #[]] }, W1, gf,
    #[.func (.yield (w.heap.size + 1)) #[] #[]] ++ lb, W1, ?_, ?_, ?_, ?_, fun _ => h1, ?_⟩
  · rw [← hW1]; exact henter
  · simp only [resolve, hg]; simp [go_sem]
  · intro f' hf'; simp [Target.leads] at hf'; subst hf'; exact hFg
  · simp [invoke, go_sem, eg]
  clear henter hW1 hbw
  have hput : ∀ {s : List α} {X : World} (o : Obj), w.heap.size ≤ X.heap.size → I s X → I s (X.putObj (w.heap.size + 1) o) := fun o hs h => hI.below h (below_put _ _ _ _ (by omega) hs)
  have hputx : ∀ {c : Code} {s : List α} {X : World} (o : Obj), w.heap.size ≤ X.heap.size → Ix c s X → Ix c s (X.putObj (w.heap.size + 1) o) := fun o hs h => (hIx _).below h (below_put _ _ _ _ (by omega) hs)
  have hbook : ∀ {st : LoopState} {pe : Option Code} {X Y : World}, Booked (bookOf fn a.tmps ps assign body w.heap.size) w.heap.size st pe X → Same (fun k => k < W1.heap.size ∧ ¬ C k) X Y → Booked (bookOf fn a.tmps ps assign body w.heap.size) w.heap.size st pe Y := fun h hb => ⟨(hb.block _ ⟨by omega, fun h => by have := hC _ h; omega⟩).trans h.loop, (hb.block _ ⟨by omega, fun h => by have := hC _ h; omega⟩).trans h.defs⟩
  have hbs : ∀ {st : LoopState} {pe : Option Code} {X : World}, Booked (bookOf fn a.tmps ps assign body w.heap.size) w.heap.size st pe X → w.heap.size + 2 ≤ X.heap.size := fun h => by have := (Array.getElem?_eq_some_iff.1 h.loop).1; omega
  refine (hseq (w.heap.size + 1) (fun pre W => I pre W ∧ Booked (bookOf fn a.tmps ps assign body w.heap.size) w.heap.size .ready none W)
    (fun pre W => ∃ c, Ix c pre W ∧ Booked (bookOf fn a.tmps ps assign body w.heap.size) w.heap.size .done (some c) W) W1 hb1 (by have := hb0.size; omega)
    (fun s X Y hs hb => ⟨hI _ _ _ hs.1 (hb.mono fun k hk => ⟨by have := hk.1; omega, hk.2⟩), hbook hs.2 hb⟩)
    (fun s X Y hs hb => by obtain ⟨c, hc, hk⟩ := hs; exact ⟨c, hIx c _ _ _ hc (hb.mono fun k hk => ⟨by have := hk.1; omega, hk.2⟩), hbook hk hb⟩)
    (fun pre x X hX hok => ?_) ⟨hi1, book1⟩).mono ?_
  · obtain ⟨hi, hbk⟩ := hX
    refine ⟨fn, _, assign, body, run_yield (P := P) (args := encs x) hbk.loop (hps x), roundIn_of_wpIn hfn (hassign _ pre x X _ (hbs hbk) hi hok ?_)⟩
    intro a' Y hkf hkp hiY hax
    have hbY := hbk.keeps hkf
    refine ⟨_, run_beginRound hbY.loop rfl, ?_⟩
    have hbZ : Booked (bookOf fn a.tmps ps assign body w.heap.size) w.heap.size .busy none (Y.putObj (w.heap.size + 1) (.loop { bookOf fn a.tmps ps assign body w.heap.size .ready none with state := .busy })) := hbY.turn
    refine wpIn_mono (hbody _ pre x a' _ (by omega) ⟨_, hbZ.loop⟩ (hbs hbZ) (hput _ (by have := hbs hbY; omega) hiY) (hAx pre x a' _ _ hax)) ?_
    have fin : ∀ (jump : Option Code) (Z : World), KeepsFrom w.heap.size (Y.putObj (w.heap.size + 1) (.loop { bookOf fn a.tmps ps assign body w.heap.size .ready none with state := .busy })) Z →
        (Instr.endRound (w.heap.size + 1) jump).run P Z = .ok (.bool jump.isNone) (Z.putObj (w.heap.size + 1) (.loop (bookOf fn a.tmps ps assign body w.heap.size (if jump.isNone then .ready else .done) jump))) ∧
        Booked (bookOf fn a.tmps ps assign body w.heap.size) w.heap.size .busy none Z := fun jump Z hkZ =>
      ⟨run_endRound (P := P) jump (hbZ.keeps hkZ).loop, hbZ.keeps hkZ⟩
    rintro e a3 Z hp
    cases e with
    | normal =>
      obtain ⟨hk3, hkp3, hi3⟩ := hp
      obtain ⟨hr, hb3⟩ := fin none Z hk3
      have hzs := hbs hb3
      exact ⟨_, _, hr, .inl ⟨rfl, ⟨hput _ (by omega) hi3, hb3.turn⟩, hKt hkp (hKt (hKt (hKb _ _ _) hkp3) (hKb _ _ _))⟩⟩
    | ret =>
      obtain ⟨hk3, hkp3, hi3⟩ := hp
      obtain ⟨hr, hb3⟩ := fin (some .ret) Z hk3
      have hzs := hbs hb3
      exact ⟨_, _, hr, .inr ⟨rfl, ⟨.ret, hputx _ (by omega) hi3, hb3.turn⟩, hKt hkp (hKt (hKt (hKb _ _ _) hkp3) (hKb _ _ _))⟩⟩
    | exit id =>
      obtain ⟨hk3, hkp3, hi3⟩ := hp
      obtain ⟨hr, hb3⟩ := fin (some (.exit id)) Z hk3
      have hzs := hbs hb3
      exact ⟨_, _, hr, .inr ⟨rfl, ⟨.exit id, hputx _ (by omega) hi3, hb3.turn⟩, hKt hkp (hKt (hKt (hKb _ _ _) hkp3) (hKb _ _ _))⟩⟩
    | goto t =>
      obtain ⟨hk3, hkp3, hi3⟩ := hp
      obtain ⟨hr, hb3⟩ := fin (some (.goto t)) Z hk3
      have hzs := hbs hb3
      exact ⟨_, _, hr, .inr ⟨rfl, ⟨.goto t, hputx _ (by omega) hi3, hb3.turn⟩, hKt hkp (hKt (hKt (hKb _ _ _) hkp3) (hKb _ _ _))⟩⟩
    | panic ch => exact hp.elim
    | outgrown => exact hp.elim
  · rintro e W2 ⟨⟨v, rfl⟩, (⟨xs, hS, hi, hbk⟩ | ⟨pre, hSp, c, hi, hbk⟩)⟩
    · have hzs := hbs hbk
      exact ⟨none, _, run_endLoop (P := P) hbk.loop (by simp [bookOf]), hdone _ xs _ (Nat.le_refl _) hS (hput _ (by omega) hi) ((World.putObj_heap_other (by omega)).trans hbk.defs)⟩
    · have hzs := hbs hbk
      exact ⟨some c, _, run_endLoop (P := P) hbk.loop (by simp [bookOf]), hstop _ c pre _ (Nat.le_refl _) hSp (hputx _ (by omega) hi) ((World.putObj_heap_other (by omega)).trans hbk.defs)⟩
end
theorem YieldAt.inRound {m k l l' : Nat} {P : Program} {args : Array Value} {W : World} {R : Ending → World → Prop} (h : YieldAt Fence.wide m P l args W R) : YieldAt (Fence.wide.inRound l') k P l args W R := by
  obtain ⟨fn, tmps, assign, body, h1, h2⟩ := h
  exact ⟨fn, tmps, assign, body, h1, h2.1, fun c cs _ => h2.2 c cs (room_wide _)⟩
end Go.Proofs.YtloiaaolnfimgaaGreat
