/- Walks: whether the constants are bits of roots. -/
import Derived.Test.YtfconncnccgenaaShaK2
set_option linter.unusedVariables false
set_option linter.unusedSimpArgs false
namespace Go.Proofs.Ytfconncnccgenaa
open Go.RowKit
theorem rest_zero (p i : Nat) : Root.rest 0 p i = false := rfl
theorem rest_succ (f p i : Nat) (h : i < 64) : Root.rest (f + 1) p i = (if Root.prime p then (Root.behind (Sha.kc i).toNat p 3 && (decide (8 ≤ i) || Root.behind (Sha.first.get i).toNat p 2) && Root.rest f (p + 1) (i + 1)) else Root.rest f (p + 1) i) := by
  rw [Root.rest, if_pos h]
theorem prime_step (p f d : Nat) (b : Bool) (h : d * d ≤ p) : Root.primeFrom p (f + 1) d b = Root.primeFrom p f (d + 1) (b && decide (p % d ≠ 0)) := by
  rw [Root.primeFrom, if_pos h]
theorem prime_end (p f d : Nat) (b : Bool) (h : ¬ d * d ≤ p) : Root.primeFrom p f d b = b := by
  cases f with
  | zero => rfl
  | succ f => rw [Root.primeFrom, if_neg h]
theorem sq_le (d : Nat) (h : d ≤ 42) : d * d ≤ 1764 := Nat.mul_le_mul h h
theorem sq_u64 (d : Nat) (h : d ≤ 42) : IntKind.u64.wrap ((d : Int) * (d : Int)) = ((d * d : Nat) : Int) := by
  have h1 := sq_le d h
  have e : (d : Int) * (d : Int) = ((d * d : Nat) : Int) := by rw [Int.natCast_mul]
  rw [e]
  generalize d * d = q at *
  simp [IntKind.wrap, IntKind.bits, IntKind.signed]
  omega
set_option maxRecDepth 100000 in
set_option maxHeartbeats 4000000 in
theorem rooted_yes (w : World) : Calls Try.prog 30 #[] w fun e w' => e = .returned (.bool true) ∧ Below w.heap.size w w' := by
  go_enter Try.func30, Try.ntmps30
  go_upto_region 2 with (first
    | (go_at_call 40; refine (refK_any _).mono ?_; rintro e w1 ⟨rfl, hb1⟩)
    | (go_at_call 31; refine (refFirst_any _).mono ?_; rintro e w2 ⟨rfl, rfl⟩; obtain ⟨w3, hst1, r1, g1⟩ := run_put_row (P := Try.prog) (T := 72) (w := ((w1.alloc (.cells (stC Sha.first 0) 41)).alloc (.cells z64 72)).alloc (.cells z8 41)) ((Row.new (w1.alloc (.cells (stC Sha.first 0) 41)) 72 z64).alloc _) (vs := kCells) (by rw [kCells_size]; rfl) (by rw [kCells_size]; exact info64) kCells_one; obtain ⟨w4, hst2, r2, g2⟩ := run_put_row (P := Try.prog) (T := 41) (w := w3) ((Row.new ((w1.alloc (.cells (stC Sha.first 0) 41)).alloc (.cells z64 72)) 41 z8).grown g1 (by intro e; injection e with e; simp only [World.size_alloc] at e; omega)) (vs := stC Sha.first 0) (by rw [stC_size]; rfl) (by rw [stC_size]; exact info8) (stC_one _ _))
    | (with_reducible refine wpList_alloc rfl 72 rfl (alloc64 _) ?_)
    | (with_reducible refine wpList_alloc rfl 41 rfl (alloc8 _) ?_)
    | (refine wpList_store rfl 72 (.tmp 1) (.tmp 7) rfl (.pointer (some ⟨(w1.alloc (.cells (stC Sha.first 0) 41)).heap.size, 0, none⟩)) (.agg kCells) rfl rfl hst1 ?_)
    | (refine wpList_store rfl 41 (.tmp 2) (.tmp 8) rfl (.pointer (some ⟨((w1.alloc (.cells (stC Sha.first 0) 41)).alloc (.cells z64 72)).heap.size, 0, none⟩)) (.agg (stC Sha.first 0)) rfl rfl hst2 ?_)
    | fail)
  simp only [World.size_alloc] at r1 r2 g1 g2 ⊢
  obtain ⟨gk, hgk⟩ : ∃ y, y = w1.heap.size + 1 := ⟨_, rfl⟩
  rw [← hgk] at r1 r2 g1 g2 ⊢
  have hs1 := hb1.size
  have r1' := r1.grown g2 (by intro e; injection e with e; omega)
  have hL3 : Later w w3 := Below.grown ((((Later.refl w).call hb1).alloc _).alloc _ |>.alloc (.cells z8 41)) g1 (by simp only [World.size_alloc]; omega) (fun j e => by cases e; omega)
  have hL4 : Later w w4 := Below.grown hL3 g2 hL3.size (fun j e => by cases e; omega)
  clear hb1 hst1 hst2 r1 g1 g2 hs1 hL3 hgk
  have hroot := Root.rooted
  have HRT := Lib.hid hroot
  clear hroot
  go_wp2_with fail
  go_loopw [3, 4] (fun ti tp wr => ∃ f p i : Nat, p + f = 402 ∧ i ≤ 64 ∧ 2 ≤ p ∧ ti = .int .i64 i ∧ tp = .int .u64 p ∧ Root.rest f p i = true ∧ Row wr gk 72 kCells ∧ Row wr (gk + 1) 41 (stC Sha.first 0) ∧ Later w wr) (fun _ tp _ => 402 - (intOf tp).toNat)
  case atStart => exact ⟨400, 2, 0, rfl, by omega, by omega, rfl, rfl, HRT.out, r1', r2, hL4⟩
  case round =>
    obtain ⟨f, p, i, hpf, hi, hp2, rfl, rfl, hrest, h1, h2, hL⟩ := hrel
    clear r1' r2 hL4
    by_cases hlt : i < 64
    · obtain ⟨f', rfl⟩ : ∃ f', f = f' + 1 := by
        cases f with
        | zero => rw [rest_zero] at hrest; cases hrest
        | succ f => exact ⟨f, rfl⟩
      rw [rest_succ f' p i hlt] at hrest
      obtain ⟨pr, hpr⟩ : ∃ y, Root.prime p = y := ⟨_, rfl⟩
      have hpd : Root.primeFrom p 40 2 true = pr := hpr
      rw [hpr] at hrest
      have HREST := Lib.hid hrest
      have HPD := Lib.hid hpd
      clear hrest hpr hpd
      go_wp2_with fail
      go_loopw [5, 6] (fun tb td wr => ∃ fd d : Nat, ∃ b : Bool, d + fd = 42 ∧ 2 ≤ d ∧ tb = .bool b ∧ td = .int .u64 d ∧ Root.primeFrom p fd d b = pr ∧ Row wr gk 72 kCells ∧ Row wr (gk + 1) 41 (stC Sha.first 0) ∧ Later w wr) (fun _ td _ => 42 - (intOf td).toNat)
      case atStart => exact ⟨40, 2, true, rfl, by omega, rfl, rfl, HPD.out, h1, h2, hL⟩
      case round =>
        obtain ⟨fd, d, b, hdf, hd2, rfl, rfl, hpf2, h1, h2, hL⟩ := hrel
        have hsq := sq_u64 d (by omega)
        have hsql := sq_le d (by omega)
        have hcast : (d : Int) * (d : Int) = ((d * d : Nat) : Int) := by rw [Int.natCast_mul]
        by_cases hdd : d * d ≤ p
        · obtain ⟨fd', rfl⟩ : ∃ x, fd = x + 1 := by
            cases fd with
            | zero =>
              exfalso
              have hd42 : d = 42 := by omega
              rw [hd42] at hdd
              omega
            | succ x => exact ⟨x, rfl⟩
          rw [prime_step p fd' d b hdd] at hpf2
          have HPF := Lib.hid hpf2
          obtain ⟨dd, hddn⟩ : ∃ y, d * d = y := ⟨_, rfl⟩
          rw [hddn] at hcast hsql hdd
          have hdd' : (dd : Int) ≤ (p : Int) := by omega
          have hle : decide ((dd : Int) ≤ (p : Int)) = true := by simpa using hdd'
          have hdne : ((d : Int) == 0) = false := by rw [beq_eq_false_iff_ne]; omega
          have htm : (p : Int).tmod (d : Int) = ((p % d : Nat) : Int) := by rw [Int.tmod_eq_emod_of_nonneg (by omega)]; rfl
          clear hpf2 hsq hddn
          cases b
          · go_wp2_with fail
            go_roundw
            case rel => exact ⟨fd', d + 1, false, by omega, by omega, rfl, by go_num, HPF.out, h1, h2, hL⟩
            case measure => simp [intOf]; omega
          · by_cases hm : p % d = 0
            · have hq : (((p % d : Nat) : Int) != 0) = false := by rw [hm]; rfl
              have hdn : decide (p % d ≠ 0) = false := by simpa using hm
              have hpf3 := HPF.out
              rw [hdn] at hpf3
              have HP3 := Lib.hid hpf3
              clear hpf3 hdn HPF hm
              generalize p % d = md at *
              go_wp2_with fail
              go_roundw
              case rel => exact ⟨fd', d + 1, false, by omega, by omega, rfl, by go_num, HP3.out, h1, h2, hL⟩
              case measure => simp [intOf]; omega
            · have hq : (((p % d : Nat) : Int) != 0) = true := by rw [bne_iff_ne]; omega
              have hdn : decide (p % d ≠ 0) = true := by simpa using hm
              have hpf3 := HPF.out
              rw [hdn] at hpf3
              have HP3 := Lib.hid hpf3
              clear hpf3 hdn HPF hm
              generalize p % d = md at *
              go_wp2_with fail
              go_roundw
              case rel => exact ⟨fd', d + 1, true, by omega, by omega, rfl, by go_num, HP3.out, h1, h2, hL⟩
              case measure => simp [intOf]; omega
        · rw [prime_end p fd d b hdd] at hpf2
          obtain rfl := hpf2
          obtain ⟨dd, hddn⟩ : ∃ y, d * d = y := ⟨_, rfl⟩
          rw [hddn] at hcast hsql hdd
          have hdd' : ¬ ((dd : Int) ≤ (p : Int)) := by omega
          have hle : decide ((dd : Int) ≤ (p : Int)) = false := by simpa using hdd'
          clear hsq hddn
          cases b
          · have hr2 : Root.rest f' (p + 1) i = true := by simpa using HREST.out
            have HR2 := Lib.hid hr2
            clear hr2
            go_wp2_with fail
            go_roundw
            case rel => exact ⟨f', p + 1, i, by omega, hi, by omega, rfl, by go_num, HR2.out, h1, h2, hL⟩
            case measure => simp [intOf]; omega
          · have hall : (Root.behind (Sha.kc i).toNat p 3 && (decide (8 ≤ i) || Root.behind (Sha.first.get i).toNat p 2) && Root.rest f' (p + 1) (i + 1)) = true := by simpa using HREST.out
            rw [Bool.and_eq_true, Bool.and_eq_true] at hall
            obtain ⟨⟨hb3, hb2⟩, hr2⟩ := hall
            have k3 := fun W => behind_3 (Sha.kc i) p W (by omega)
            have k2 := fun W => behind_2 (Sha.first.get i) p W (by omega)
            rw [hb3] at k3
            have ck := (h1.cell i).trans (kCells_get i hlt)
            have HR2 := Lib.hid hr2
            have K3 := Lib.hid k3
            by_cases h8 : i < 8
            · have hb2' : Root.behind (Sha.first.get i).toNat p 2 = true := by
                have : decide (8 ≤ i) = false := by simp; omega
                rw [this] at hb2
                simpa using hb2
              rw [hb2'] at k2
              have K2 := Lib.hid k2
              have hgt := h2.lt
              have cs : wr.cell? ⟨gk + 1, i, none⟩ = some (.int .u32 ((Sha.first.get i).toNat : Int)) := (h2.cell i).trans (by rw [stC_get Sha.first 0 i h8, show (i + 0) % 8 = i from by omega])
              clear hb3 hb2 hb2' hr2 k3 k2 HREST HPD
              go_wp2_with (first
                | (go_at_call 46; refine (K3.out _).mono ?_; clear K3; rintro e w8 ⟨rfl, hb8⟩; have cs8 : w8.cell? ⟨gk + 1, i, none⟩ = some (.int .u32 ((Sha.first.get i).toNat : Int)) := (Later.cell (W := w8) hb8 cs); have h18 := h1.belowAll hb8; have h28 := h2.belowAll hb8; have hL8 := hL.call hb8)
                | (go_at_call 46; refine (K2.out _).mono ?_; clear K2; rintro e w9 ⟨rfl, hb9⟩; have h19 := h18.belowAll hb9; have h29 := h28.belowAll hb9; have hL9 := hL8.call hb9)
                | fail)
              go_roundw
              case rel => exact ⟨f', p + 1, i + 1, by omega, by omega, by omega, by go_num, by go_num, HR2.out, h19, h29, hL9⟩
              case measure => simp [intOf]; omega
            · have h8' : ¬ ((i : Int) < 8) := by omega
              have h8d : decide ((i : Int) < 8) = false := by simpa using h8'
              clear hb3 hb2 hr2 k3 k2 HREST HPD
              go_wp2_with (first
                | (go_at_call 46; refine (K3.out _).mono ?_; clear K3; rintro e w8 ⟨rfl, hb8⟩; have h18 := h1.belowAll hb8; have h28 := h2.belowAll hb8; have hL8 := hL.call hb8)
                | fail)
              go_roundw
              case rel => exact ⟨f', p + 1, i + 1, by omega, by omega, by omega, by go_num, by go_num, HR2.out, h18, h28, hL8⟩
              case measure => simp [intOf]; omega
    · obtain rfl : i = 64 := by omega
      go_wp2_with fail
      go_ret
      exact ⟨rfl, hL⟩
end Go.Proofs.Ytfconncnccgenaa
