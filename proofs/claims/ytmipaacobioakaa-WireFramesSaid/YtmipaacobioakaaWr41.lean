/- Walks: a call read back; the plain law: what was laid is read. -/
import Derived.Test.YtmipaacobioakaaWr40
set_option linter.unusedVariables false
set_option linter.unusedSimpArgs false
namespace Go.Proofs.Ytmipaacobioakaa
open Go.RowKit
namespace Wr
theorem numR_bytes (z : Nat) (s : List UInt8) (hz : z ≤ 4611686018427387904) : numR (bytes z ++ s) false 4611686018427387904 = ((s, false), (z : Int), 0) := by
  have hb : 0 < (bytes z).length := by rw [bytes_len]; split <;> (try split) <;> (try split) <;> omega
  have hf := first_bytes z s hz
  have hm : may (bytes z ++ s) 4611686018427387904 := by unfold may; rw [hf]; exact ⟨by simp; omega, by simp; omega⟩
  unfold numR
  rw [if_neg (by simp), if_neg (by decide), if_pos hm, hf]
  simp only [Int.toNat_natCast]
  rw [List.drop_left' rfl]
theorem truthR_bytes (b : Bool) (s : List UInt8) : truthR ((if b then 1 else 0) :: s) false = ((s, false), b, 0) := by
  cases b <;> rfl
theorem hashR_bytes (h s : List UInt8) (hl : h.length = 32) : hashR (h ++ s) false = ((s, false), h, 0) := by
  unfold hashR
  rw [if_neg (by simp), if_pos (by rw [List.length_append]; omega), List.drop_left' hl, List.take_left' hl]
theorem textR_bytes (t s : List UInt8) (hl : t.length ≤ 200) : textR (bytes t.length ++ (t ++ s)) false 200 = ((s, false), t, 0) := by
  have hb : 0 < (bytes t.length).length := by rw [bytes_len]; split <;> (try split) <;> (try split) <;> omega
  have hf := first_bytes t.length (t ++ s) (by omega)
  have hm : may (bytes t.length ++ (t ++ s)) 200 := by unfold may; rw [hf]; exact ⟨by simp; omega, by simp; omega⟩
  have hok : textOk (bytes t.length ++ (t ++ s)) 200 = true := by
    unfold textOk
    rw [decide_eq_true hm, hf, decide_eq_true (by simp)]
    rfl
  unfold textR textRest textAt
  rw [if_neg (by simp), if_neg (by decide), hok, if_pos rfl, hf]
  simp only [Int.toNat_natCast]
  rw [List.drop_left' rfl, List.take_left' rfl, List.drop_left' rfl]
end Wr
set_option maxRecDepth 100000 in
set_option maxHeartbeats 4000000 in
theorem read0_any (g : Nat) (s : List UInt8) (x : ActL) (A1 A2 A3 : Option Addr) (c1 c2 c3 : Nat) (w0 w : World) (hwh : x.what = 0) (hL0 : Later w0 w) (hg0 : w0.heap.size ≤ g) (hok : ActOk w0 x A1 A2 A3 c1 c2 c3) (hs : Wr.small x = true) (hno : Wr.layNo x = 0) (hw : IsRd w g (Wr.lay x ++ s) false) :
    Calls Try.prog 35 #[.pointer (some ⟨g, 0, none⟩), .agg (actA x A1 A2 A3 c1 c2 c3)] w fun e w' => e = .returned (.bool true) ∧ IsRd w' g s false ∧ Same (fun k => k < w.heap.size ∧ k ≠ g) w w' := by
  refine Calls.post fun Φ HΦ => ?_
  obtain ⟨s1, s2, s3, s4⟩ := small_parts hs
  have m1 := Nat.le_trans hok.n1 hok.m1
  have m2 := Nat.le_trans hok.n2 hok.m2
  have m3 := Nat.le_trans hok.n3 hok.m3
  have k3 := Row.new w 67 (actA x A1 A2 A3 c1 c2 c3)
  have hb := (Later.refl w).alloc (.cells (actA x A1 A2 A3 c1 c2 c3) 67)
  have hw1 := hw.later hb
  have hL1 := hL0.step hb
  have hgl := hw.lt
  obtain ⟨what, nums, truths, hashes, text⟩ := x
  simp only at hwh s1 s2 s3 s4 m1 m2 m3
  subst hwh
  have hlay : Wr.lay ⟨0, nums, truths, hashes, text⟩ = Wr.nums nums := by unfold Wr.layNo at hno; simp only [if_true] at hno; unfold Wr.lay; simp only [if_true]; rw [if_neg (by intro h; rw [if_pos h] at hno; cases hno)]
  rw [hlay] at hw hw1
  have hno' := hno
  unfold Wr.layNo at hno'
  clear hlay hno hs
  obtain ⟨n1, hn1⟩ : ∃ n, nums.length = n := ⟨_, rfl⟩
  unfold actA at k3 hL1 hb hw1 ⊢
  simp only [hn1] at k3 hL1 hb hw1 s1 ⊢
  have HN := Lib.hid hn1
  clear hn1
  generalize truths.length = a2 at *
  generalize hashes.length = a3 at *
  go_enter Try.func35, Try.ntmps35
  go_upto_region 1 with fail
  obtain ⟨q, hq⟩ : ∃ q, q = w.heap.size := ⟨_, rfl⟩
  rw [← hq] at k3 ⊢
  have HQ := Lib.hid hq
  have hqs : w.heap.size < (w.alloc (.cells #[.int .i64 0, .slice A1 n1 c1, .slice A2 a2 c2, .slice A3 a3 c3, .string ⟨text.toArray⟩] 67)).heap.size := by simp
  clear hq
  generalize w.alloc (.cells #[.int .i64 0, .slice A1 n1 c1, .slice A2 a2 c2, .slice A3 a3 c3, .string ⟨text.toArray⟩] 67) = w1 at *
  have c30 : w1.cell? ⟨q, 0, none⟩ = some (.int .i64 0) := (k3.cell 0).trans rfl
  have hqg : q ≠ g := by have := HQ.out; omega
  have hlt3 := k3.lt
  have hany : nums.any Wr.wrong = false := by
    simp only [if_true] at hno'
    cases h : nums.any Wr.wrong
    · rfl
    · rw [h] at hno'; simp at hno'
  have HANY := Lib.hid hany
  clear hany hno'
  go_wp2_with fail
  go_loopw [5] (fun t wr => ∃ i : Nat, i ≤ n1 ∧ t = .int .i64 (i : Int) ∧ IsRd wr g (Wr.nums (nums.drop i) ++ s) false ∧ Same (fun k => k < w1.heap.size ∧ k ≠ g) w1 wr) (fun t _ => n1 - (intOf t).toNat)
  case atStart => exact ⟨0, by omega, rfl, by simpa using hw1, Same.refl _ _⟩
  case round =>
    obtain ⟨i, hi, rfl, hwr, hsr⟩ := hrel
    have k3r := k3.same hsr ⟨hlt3, hqg⟩
    have c31 : wr.cell? ⟨q, 1, none⟩ = some (.slice A1 n1 c1) := (k3r.cell 1).trans rfl
    have hLr := later_of_same hL1 hg0 hsr
    by_cases hlt : i < n1
    · have hd : decide ((i : Int) < (n1 : Int)) = true := decide_eq_true (by omega)
      have hd' : decide (i < n1) = true := decide_eq_true hlt
      have hil : i < nums.length := by rw [HN.out]; exact hlt
      obtain ⟨b, o, rfl, hc⟩ := (hok.r1.below hLr).at_ (k := i) (by simpa using hil)
      have hnx : nums.drop i = nums[i] :: nums.drop (i + 1) := List.drop_eq_getElem_cons hil
      have hnw : Wr.wrong nums[i] = false := by
        have h := HANY.out
        rw [List.any_eq_false] at h
        simpa using h _ (List.getElem_mem hil)
      rw [List.getElem_map] at hc
      obtain ⟨y, hyz⟩ : ∃ y, nums[i] = y := ⟨_, rfl⟩
      rw [hyz] at hc hnx hnw
      obtain ⟨z, rfl⟩ : ∃ z : Nat, y = z := ⟨y.toNat, by unfold Wr.wrong at hnw; simp at hnw; omega⟩
      have hz : z ≤ 4611686018427387904 := by unfold Wr.wrong at hnw; simp at hnw; omega
      have hsp : Wr.nums (nums.drop i) ++ s = Wr.bytes z ++ (Wr.nums (nums.drop (i + 1)) ++ s) := by rw [hnx]; simp [Wr.nums, Wr.nb_nat]
      rw [hsp] at hwr
      have hrn := rNumber_any g _ false 4611686018427387904 wr hwr
      rw [Wr.numR_bytes z _ hz] at hrn
      clear hnx hnw hsp
      have HRW := Lib.hid hwr
      clear hwr c30
      go_upto_region 7 with (first
        | (go_at_call 19; refine hrn.mono ?_; clear hrn; rintro e w4 ⟨hs4, rfl, hw4⟩)
        | fail)
      have hs14 := hsr.trans (hs4.mono fun k h => ⟨by have := hsr.size; have := h.1; omega, h.2⟩)
      have hL4 := later_of_same hL1 hg0 hs14
      have c314 : w4.cell? ⟨q, 1, none⟩ = some (.slice (some ⟨b, o, none⟩) n1 c1) := ((k3.same hs14 ⟨hlt3, hqg⟩).cell 1).trans rfl
      have hc4 : w4.cell? ⟨b, o + i, none⟩ = some (.int .i64 (z : Int)) := by
        obtain ⟨b', o', e, hc'⟩ := (hok.r1.below hL4).at_ (k := i) (by simpa using hil)
        injection e with e
        injection e with e1 e2
        subst e1 e2
        rw [List.getElem_map, hyz] at hc'
        exact hc'
      go_wp2_with (first
        | (go_at_call 13; refine (numE_any _ _).mono ?_; rintro e w' ⟨rfl, hww⟩; subst hww)
        | fail)
      go_roundw
      case rel => exact ⟨i + 1, by omega, by go_num, hw4, hs14⟩
      case measure => simp [intOf]; omega
    · obtain rfl : i = n1 := by omega
      have hd : decide ((i : Int) < (i : Int)) = false := decide_eq_false (by omega)
      have hd' : decide (i < i) = false := decide_eq_false (by omega)
      rw [List.drop_of_length_le (by rw [HN.out]; exact Nat.le_refl _)] at hwr
      have hfin : Same (fun k => k < w.heap.size ∧ k ≠ g) w wr := ((Same.of_below hb).mono fun k h => h.1).trans (hsr.mono fun k h => ⟨by have := h.1; omega, h.2⟩)
      have hwr' : IsRd wr g s false := by simpa [Wr.nums] using hwr
      clear hwr hsr k3r c30
      go_wp2_with fail
      exact HΦ.out _ _ ⟨rfl, hwr', hfin⟩
set_option maxRecDepth 100000 in
set_option maxHeartbeats 4000000 in
theorem read1_any (g : Nat) (s : List UInt8) (x : ActL) (A1 A2 A3 : Option Addr) (c1 c2 c3 : Nat) (w0 w : World) (hwh : x.what = 1) (hL0 : Later w0 w) (hg0 : w0.heap.size ≤ g) (hok : ActOk w0 x A1 A2 A3 c1 c2 c3) (hs : Wr.small x = true) (hno : Wr.layNo x = 0) (hw : IsRd w g (Wr.lay x ++ s) false) :
    Calls Try.prog 35 #[.pointer (some ⟨g, 0, none⟩), .agg (actA x A1 A2 A3 c1 c2 c3)] w fun e w' => e = .returned (.bool true) ∧ IsRd w' g s false ∧ Same (fun k => k < w.heap.size ∧ k ≠ g) w w' := by
  refine Calls.post fun Φ HΦ => ?_
  obtain ⟨s1, s2, s3, s4⟩ := small_parts hs
  have m1 := Nat.le_trans hok.n1 hok.m1
  have m2 := Nat.le_trans hok.n2 hok.m2
  have m3 := Nat.le_trans hok.n3 hok.m3
  have k3 := Row.new w 67 (actA x A1 A2 A3 c1 c2 c3)
  have hb := (Later.refl w).alloc (.cells (actA x A1 A2 A3 c1 c2 c3) 67)
  have hw1 := hw.later hb
  have hL1 := hL0.step hb
  have hgl := hw.lt
  obtain ⟨what, nums, truths, hashes, text⟩ := x
  simp only at hwh s1 s2 s3 s4 m1 m2 m3
  subst hwh
  have hlay : Wr.lay ⟨1, nums, truths, hashes, text⟩ = Wr.truths truths := by unfold Wr.lay; rw [if_neg (show ¬ ((1 : Int) = 0) by decide), if_pos rfl]
  rw [hlay] at hw hw1
  have hno' := hno
  unfold Wr.layNo at hno'
  clear hlay hno hs
  obtain ⟨n1, hn1⟩ : ∃ n, truths.length = n := ⟨_, rfl⟩
  unfold actA at k3 hL1 hb hw1 ⊢
  simp only [hn1] at k3 hL1 hb hw1 s2 ⊢
  have HN := Lib.hid hn1
  clear hn1
  generalize nums.length = a1 at *
  generalize hashes.length = a3 at *
  go_enter Try.func35, Try.ntmps35
  go_upto_region 1 with fail
  obtain ⟨q, hq⟩ : ∃ q, q = w.heap.size := ⟨_, rfl⟩
  rw [← hq] at k3 ⊢
  have HQ := Lib.hid hq
  have hqs : w.heap.size < (w.alloc (.cells #[.int .i64 1, .slice A1 a1 c1, .slice A2 n1 c2, .slice A3 a3 c3, .string ⟨text.toArray⟩] 67)).heap.size := by simp
  clear hq
  generalize w.alloc (.cells #[.int .i64 1, .slice A1 a1 c1, .slice A2 n1 c2, .slice A3 a3 c3, .string ⟨text.toArray⟩] 67) = w1 at *
  have c30 : w1.cell? ⟨q, 0, none⟩ = some (.int .i64 1) := (k3.cell 0).trans rfl
  have hqg : q ≠ g := by have := HQ.out; omega
  have hlt3 := k3.lt
  
  go_wp2_with fail
  go_loopw [8] (fun t wr => ∃ i : Nat, i ≤ n1 ∧ t = .int .i64 (i : Int) ∧ IsRd wr g (Wr.truths (truths.drop i) ++ s) false ∧ Same (fun k => k < w1.heap.size ∧ k ≠ g) w1 wr) (fun t _ => n1 - (intOf t).toNat)
  case atStart => exact ⟨0, by omega, rfl, by simpa using hw1, Same.refl _ _⟩
  case round =>
    obtain ⟨i, hi, rfl, hwr, hsr⟩ := hrel
    have k3r := k3.same hsr ⟨hlt3, hqg⟩
    have c31 : wr.cell? ⟨q, 2, none⟩ = some (.slice A2 n1 c2) := (k3r.cell 2).trans rfl
    have hLr := later_of_same hL1 hg0 hsr
    by_cases hlt : i < n1
    · have hd : decide ((i : Int) < (n1 : Int)) = true := decide_eq_true (by omega)
      have hd' : decide (i < n1) = true := decide_eq_true hlt
      have hil : i < truths.length := by rw [HN.out]; exact hlt
      obtain ⟨b, o, rfl, hc⟩ := (hok.r2.below hLr).at_ (k := i) (by simpa using hil)
      have hnx : truths.drop i = truths[i] :: truths.drop (i + 1) := List.drop_eq_getElem_cons hil
      rw [List.getElem_map] at hc
      obtain ⟨y, hyz⟩ : ∃ y, truths[i] = y := ⟨_, rfl⟩
      rw [hyz] at hc hnx
      have hsp : Wr.truths (truths.drop i) ++ s = (if y then 1 else 0) :: (Wr.truths (truths.drop (i + 1)) ++ s) := by rw [hnx]; simp [Wr.truths]
      rw [hsp] at hwr
      have hrn := truth_any g _ false wr hwr
      rw [Wr.truthR_bytes] at hrn
      clear hnx hsp
      have HRW := Lib.hid hwr
      clear hwr c30
      go_upto_region 15 with (first
        | (go_at_call 20; refine hrn.mono ?_; clear hrn; rintro e w4 ⟨hs4, rfl, hw4⟩)
        | fail)
      have hs14 := hsr.trans (hs4.mono fun k h => ⟨by have := hsr.size; have := h.1; omega, h.2⟩)
      have hL4 := later_of_same hL1 hg0 hs14
      have c314 : w4.cell? ⟨q, 2, none⟩ = some (.slice (some ⟨b, o, none⟩) n1 c2) := ((k3.same hs14 ⟨hlt3, hqg⟩).cell 2).trans rfl
      have hc4 : w4.cell? ⟨b, o + i, none⟩ = some (.bool y) := by
        obtain ⟨b', o', e, hc'⟩ := (hok.r2.below hL4).at_ (k := i) (by simpa using hil)
        injection e with e
        injection e with e1 e2
        subst e1 e2
        rw [List.getElem_map, hyz] at hc'
        exact hc'
      go_wp2_with (first
        | (go_at_call 13; refine (numE_any _ _).mono ?_; rintro e w' ⟨rfl, hww⟩; subst hww)
        | fail)
      go_roundw
      case rel => exact ⟨i + 1, by omega, by go_num, hw4, hs14⟩
      case measure => simp [intOf]; omega
    · obtain rfl : i = n1 := by omega
      have hd : decide ((i : Int) < (i : Int)) = false := decide_eq_false (by omega)
      have hd' : decide (i < i) = false := decide_eq_false (by omega)
      rw [List.drop_of_length_le (by rw [HN.out]; exact Nat.le_refl _)] at hwr
      have hfin : Same (fun k => k < w.heap.size ∧ k ≠ g) w wr := ((Same.of_below hb).mono fun k h => h.1).trans (hsr.mono fun k h => ⟨by have := h.1; omega, h.2⟩)
      have hwr' : IsRd wr g s false := by simpa [Wr.truths] using hwr
      clear hwr hsr k3r c30
      go_wp2_with fail
      exact HΦ.out _ _ ⟨rfl, hwr', hfin⟩
theorem neqI_me {P : Program} {W : World} (t : TypeId) (k : IntKind) (i : Int) : (binOp .neq t (.int k i) (.int k i)).run P W = .ok (.bool false) W := by rw [neqI, bne_self_eq_false]
theorem range_later {w W : World} {b o : Nat} {vs : List Value} (h : w.rangeAt b o vs) (hL : Later w W) : W.rangeAt b o vs := fun i v hv => hL.cell (h i v hv)
theorem idxHash2 {b o n c i : Nat} (W : World) (h : i < n) : (Instr.indexAt 65 (.slice (some ⟨b, o, none⟩) n c) (.int .i64 (i : Int))).run Try.prog W = .ok (.pointer (some ⟨b, o + i * 32, none⟩)) W := by
  have h1 : (i : Int) < (n : Int) := by omega
  have h2 : (0 : Int) ≤ (i : Int) := by omega
  have h3 := infoH
  go_simp
theorem fieldAct3 {g : Nat} (W : World) : (Instr.fieldAt 67 (.pointer (some ⟨g, 0, none⟩)) 3).run Try.prog W = .ok (.pointer (some ⟨g, 3, none⟩)) W := by
  go_simp
set_option maxRecDepth 100000 in
set_option maxHeartbeats 4000000 in
theorem read2b_any (g : Nat) (s : List UInt8) (x : ActL) (A1 A2 A3 : Option Addr) (c1 c2 c3 : Nat) (w0 w : World) (hwh : x.what = 2) (hL0 : Later w0 w) (hg0 : w0.heap.size ≤ g) (hok : ActOk w0 x A1 A2 A3 c1 c2 c3) (hs : Wr.small x = true) (hno : Wr.layNo x = 0) (hw : IsRd w g (Wr.lay x ++ s) false) :
    Calls Try.prog 35 #[.pointer (some ⟨g, 0, none⟩), .agg (actA x A1 A2 A3 c1 c2 c3)] w fun e w' => e = .returned (.bool true) ∧ IsRd w' g s false ∧ Same (fun k => k < w.heap.size ∧ k ≠ g) w w' := by
  refine Calls.post fun Φ HΦ => ?_
  obtain ⟨s1, s2, s3, s4⟩ := small_parts hs
  have m1 := Nat.le_trans hok.n1 hok.m1
  have m2 := Nat.le_trans hok.n2 hok.m2
  have m3 := Nat.le_trans hok.n3 hok.m3
  have k3 := Row.new w 67 (actA x A1 A2 A3 c1 c2 c3)
  have hb := (Later.refl w).alloc (.cells (actA x A1 A2 A3 c1 c2 c3) 67)
  have hw1 := hw.later hb
  have hL1 := hL0.step hb
  have hgl := hw.lt
  obtain ⟨what, nums, truths, hashes, text⟩ := x
  simp only at hwh s1 s2 s3 s4 m1 m2 m3
  subst hwh
  have hlay : Wr.lay ⟨2, nums, truths, hashes, text⟩ = hashes.flatten := by unfold Wr.lay; rw [if_neg (show ¬ ((2 : Int) = 0) by decide), if_neg (show ¬ ((2 : Int) = 1) by decide), if_pos rfl]
  rw [hlay] at hw hw1
  have hno' := hno
  unfold Wr.layNo at hno'
  clear hlay hno hs
  obtain ⟨n1, hn1⟩ : ∃ n, hashes.length = n := ⟨_, rfl⟩
  unfold actA at k3 hL1 hb hw1 ⊢
  simp only [hn1] at k3 hL1 hb hw1 s3 ⊢
  have HN := Lib.hid hn1
  clear hn1
  generalize nums.length = a1 at *
  generalize truths.length = a2 at *
  go_enter Try.func35, Try.ntmps35
  go_upto_region 1 with fail
  obtain ⟨q, hq⟩ : ∃ q, q = w.heap.size := ⟨_, rfl⟩
  rw [← hq] at k3 ⊢
  have HQ := Lib.hid hq
  have hqs : w.heap.size < (w.alloc (.cells #[.int .i64 2, .slice A1 a1 c1, .slice A2 a2 c2, .slice A3 n1 c3, .string ⟨text.toArray⟩] 67)).heap.size := by simp
  clear hq
  generalize w.alloc (.cells #[.int .i64 2, .slice A1 a1 c1, .slice A2 a2 c2, .slice A3 n1 c3, .string ⟨text.toArray⟩] 67) = w1 at *
  have c30 : w1.cell? ⟨q, 0, none⟩ = some (.int .i64 2) := (k3.cell 0).trans rfl
  have hqg : q ≠ g := by have := HQ.out; omega
  have hlt3 := k3.lt
  
  go_wp2_with fail
  go_loopw [11] (fun t wr => ∃ i : Nat, i ≤ n1 ∧ t = .int .i64 (i : Int) ∧ IsRd wr g ((hashes.drop i).flatten ++ s) false ∧ Same (fun k => k < w1.heap.size ∧ k ≠ g) w1 wr) (fun t _ => n1 - (intOf t).toNat)
  case atStart => exact ⟨0, by omega, rfl, by simpa using hw1, Same.refl _ _⟩
  case round =>
    obtain ⟨i, hi, rfl, hwr, hsr⟩ := hrel
    have k3r := k3.same hsr ⟨hlt3, hqg⟩
    have c31 : wr.cell? ⟨q, 3, none⟩ = some (.slice A3 n1 c3) := (k3r.cell 3).trans rfl
    have hLr := later_of_same hL1 hg0 hsr
    by_cases hlt : i < n1
    · have hd : decide ((i : Int) < (n1 : Int)) = true := decide_eq_true (by omega)
      have hd' : decide (i < n1) = true := decide_eq_true hlt
      have hil : i < hashes.length := by rw [HN.out]; exact hlt
      obtain ⟨b, o, rfl, hcs⟩ := hok.r3.below hLr (by intro e; subst e; simp at hil)
      clear hcs
      have hnx : hashes.drop i = hashes[i] :: hashes.drop (i + 1) := List.drop_eq_getElem_cons hil
      have hy := hok.h32 _ (List.getElem_mem hil)
      obtain ⟨y, hyz⟩ : ∃ y, hashes[i] = y := ⟨_, rfl⟩
      rw [hyz] at hy hnx
      have hsp : (hashes.drop i).flatten ++ s = y ++ ((hashes.drop (i + 1)).flatten ++ s) := by rw [hnx]; simp
      rw [hsp] at hwr
      have hrn := hash_any g _ false wr hwr
      rw [Wr.hashR_bytes y _ hy] at hrn
      have HY := Lib.hid hy
      clear hnx hsp hy
      have HRW := Lib.hid hwr
      clear hwr c30
      go_upto_region 23 with (first
        | (go_at_call 21; refine hrn.mono ?_; clear hrn; rintro e w4 ⟨hs4, rfl, hw4⟩; obtain ⟨w5, hst5, k125, hg5⟩ := storeH (a := []) (b := y) (by simp) (by rw [HY.out]; exact Nat.le_refl _) (Row.new w4 53 (hC [])))
        | (with_reducible refine wpList_alloc rfl 53 rfl (allocH _) ?_)
        | (refine wpList_store rfl 53 (.tmp 12) (.tmp 82) rfl (.pointer (some ⟨w4.heap.size, 0, none⟩)) (.agg (hC y)) rfl rfl hst5 ?_)
        | fail)
      have hL45 : Later w4 w5 := ((Later.refl w4).alloc (.cells (hC []) 53)).grown hg5 (by simp) (fun j e => by cases e; omega)
      have hs14 := hsr.trans (hs4.mono fun k h => ⟨by have := hsr.size; have := h.1; omega, h.2⟩)
      have hs15 := hs14.trans ((Same.of_below hL45).mono fun k h => by have := hs14.size; have := h.1; omega)
      have hL5 := later_of_same hL1 hg0 hs15
      have k35 := k3.same hs15 ⟨hlt3, hqg⟩
      have hw5 := hw4.later hL45
      have hc5 : w5.rangeAt b (o + i * 32) (hC y).toList := by
        obtain ⟨b', o', e, hc'⟩ := (hok.r3.below hL5) (by intro e; subst e; simp at hil)
        injection e with e
        injection e with e1 e2
        subst e1 e2
        have := hc' i hil
        rwa [hyz] at this
      have ld12 := fun W (hL : Later w5 W) => loadH HY.out (k125.later hL)
      have ldc := fun W (hL : Later w5 W) => loadHr HY.out (range_later hc5 hL)
      have hneq := fun W => neqHash y y HY.out HY.out W
      simp only [beq_self_eq_true, Bool.not_true] at hneq
      clear hst5 hg5 hsr hs4 hs14 hLr k3r hL45 hw4 c31
      generalize w4.heap.size = q12 at *
      refine (wpIn_wide (n := 0)).1 ?_
      refine wpIn_region_vals wide_wide [Pr.eq (.int .i64 0), Pr.eq (.int .i64 0), Pr.eq (.bool false), Pr.eq (.bool false), Pr.eq (.agg (hC y)), Pr.eq (.pointer (some ⟨q, 3, none⟩)), Pr.eq (.slice (some ⟨b, o, none⟩) n1 c3), Pr.eq (.int .i64 (i : Int)), Pr.eq (.pointer (some ⟨b, o + i * 32, none⟩)), Pr.eq (.agg (hC y)), Pr.eq (.bool false), Pr.eq (.bool false)] (by kernel_rfl) (by kernel_rfl) (by kernel_rfl) (by kernel_rfl) (by kernel_rfl) ⟨?_, ?_, ?_, ?_, ?_, ?_, ?_, ?_, ?_, ?_, ?_, ?_, trivial⟩ ?_
      · exact fun ac W hL he => stepOk_want rfl (op_move rfl (he.keep (.tmp 13) (by kernel_rfl)))
      · intro ac W hL he; refine stepOk_want rfl ?_; have e0 : ac.eval (.tmp 84) = .int .i64 0 := (he.get 0 84 (by kernel_rfl) rfl); exact op_callF (vs := #[.int .i64 0]) rfl (by simp only [List.map_toArray, List.map_cons, List.map_nil, e0]) (enters_of Try.func13 (by kernel_rfl) rfl) ((numE_any 0 W).mono fun e W' ⟨he', hw'⟩ => ⟨_, he', hw' ▸ Later.refl _, rfl⟩)
      · exact fun ac W hL he => stepOk_want rfl (op_binOp rfl (he.get 1 85 (by kernel_rfl) rfl) rfl eqgI (neqI_me _ _ _) rfl)
      · exact fun ac W hL he => stepOk_want rfl (op_move rfl (he.get 2 86 (by kernel_rfl) rfl))
      · exact fun ac W hL he => stepOk_yes (j := 3) (t := 87) (b := false) rfl rfl (he.get 3 87 (by kernel_rfl) rfl) (op_load rfl (he.keep (.tmp 12) (by kernel_rfl)) (ld12 W hL) rfl)
      · exact fun ac W hL he => stepOk_yes (j := 3) (t := 87) (b := false) rfl rfl (he.get 3 87 (by kernel_rfl) rfl) (op_fieldAddr rfl (he.keep (.tmp 3) (by kernel_rfl)) (fieldAct3 W) rfl)
      · exact fun ac W hL he => stepOk_yes (j := 3) (t := 87) (b := false) rfl rfl (he.get 3 87 (by kernel_rfl) rfl) (op_load rfl (he.get 5 89 (by kernel_rfl) rfl) (loadSl ((k35.later hL).cell 3 |>.trans rfl)) rfl)
      · exact fun ac W hL he => stepOk_yes (j := 3) (t := 87) (b := false) rfl rfl (he.get 3 87 (by kernel_rfl) rfl) (op_move rfl (he.keep (.tmp 11) (by kernel_rfl)))
      · exact fun ac W hL he => stepOk_yes (j := 3) (t := 87) (b := false) rfl rfl (he.get 3 87 (by kernel_rfl) rfl) (op_idx rfl (he.get 6 90 (by kernel_rfl) rfl) (he.get 7 91 (by kernel_rfl) rfl) (idxHash2 W hlt) rfl)
      · exact fun ac W hL he => stepOk_yes (j := 3) (t := 87) (b := false) rfl rfl (he.get 3 87 (by kernel_rfl) rfl) (op_load rfl (he.get 8 92 (by kernel_rfl) rfl) (ldc W hL) rfl)
      · exact fun ac W hL he => stepOk_yes (j := 3) (t := 87) (b := false) rfl rfl (he.get 3 87 (by kernel_rfl) rfl) (op_binOp rfl (he.get 4 88 (by kernel_rfl) rfl) (he.get 9 93 (by kernel_rfl) rfl) (eqgHash _ _ _ _ _ W) (hneq W) rfl)
      · exact fun ac W hL he => stepOk_want rfl (op_pick (b := false) rfl (he.get 3 87 (by kernel_rfl) rfl) (he.get 10 94 (by kernel_rfl) rfl))
      intro zs W9 hL9 hzs
      have e95 : zs 11 = .bool false := hzs 11 (by decide)
      have hs19 := hs15.trans ((Same.of_below hL9).mono fun k h => by have := hs15.size; have := h.1; omega)
      have hw9 := hw5.later hL9
      clear hzs hL9 hs15 hw5 k125 k35 hc5 ld12 ldc hneq hL5
      simp only [putL, Nat.reduceAdd, Act.put, List.setIfInBounds_toArray, List.set_cons_succ, List.set_cons_zero]
      rw [e95]
      go_wp2_with fail
      go_roundw
      case rel => exact ⟨i + 1, by omega, by go_num, hw9, hs19⟩
      case measure => simp [intOf]; omega
    · obtain rfl : i = n1 := by omega
      have hd : decide ((i : Int) < (i : Int)) = false := decide_eq_false (by omega)
      have hd' : decide (i < i) = false := decide_eq_false (by omega)
      rw [List.drop_of_length_le (by rw [HN.out]; exact Nat.le_refl _)] at hwr
      have hfin : Same (fun k => k < w.heap.size ∧ k ≠ g) w wr := ((Same.of_below hb).mono fun k h => h.1).trans (hsr.mono fun k h => ⟨by have := h.1; omega, h.2⟩)
      have hwr' : IsRd wr g s false := by simpa  using hwr
      clear hwr hsr k3r c30
      go_wp2_with fail
      exact HΦ.out _ _ ⟨rfl, hwr', hfin⟩
set_option maxRecDepth 100000 in
set_option maxHeartbeats 4000000 in
theorem read3_any (g : Nat) (s : List UInt8) (x : ActL) (A1 A2 A3 : Option Addr) (c1 c2 c3 : Nat) (w0 w : World) (hwh : x.what ≠ 0 ∧ x.what ≠ 1 ∧ x.what ≠ 2) (hL0 : Later w0 w) (hg0 : w0.heap.size ≤ g) (hok : ActOk w0 x A1 A2 A3 c1 c2 c3) (hs : Wr.small x = true) (hno : Wr.layNo x = 0) (hw : IsRd w g (Wr.lay x ++ s) false) :
    Calls Try.prog 35 #[.pointer (some ⟨g, 0, none⟩), .agg (actA x A1 A2 A3 c1 c2 c3)] w fun e w' => e = .returned (.bool true) ∧ IsRd w' g s false ∧ Same (fun k => k < w.heap.size ∧ k ≠ g) w w' := by
  refine Calls.post fun Φ HΦ => ?_
  obtain ⟨s1, s2, s3, s4⟩ := small_parts hs
  have m1 := Nat.le_trans hok.n1 hok.m1
  have m2 := Nat.le_trans hok.n2 hok.m2
  have m3 := Nat.le_trans hok.n3 hok.m3
  have k3 := Row.new w 67 (actA x A1 A2 A3 c1 c2 c3)
  have hb := (Later.refl w).alloc (.cells (actA x A1 A2 A3 c1 c2 c3) 67)
  have hw1 := hw.later hb
  have hL1 := hL0.step hb
  have hgl := hw.lt
  obtain ⟨what, nums, truths, hashes, text⟩ := x
  simp only at hwh s1 s2 s3 s4 m1 m2 m3
  have hlay : Wr.lay ⟨what, nums, truths, hashes, text⟩ ++ s = Wr.bytes text.length ++ (text ++ s) := by unfold Wr.lay; rw [if_neg hwh.1, if_neg hwh.2.1, if_neg hwh.2.2, List.append_assoc]
  rw [hlay] at hw hw1
  have d0 : (what == 0) = false := by simpa using hwh.1
  have d1 : (what == 1) = false := by simpa using hwh.2.1
  have d2 : (what == 2) = false := by simpa using hwh.2.2
  unfold actA at k3 hL1 hb hw1 ⊢
  generalize nums.length = n1 at *
  generalize truths.length = n2 at *
  generalize hashes.length = n3 at *
  clear hwh hok hs hL0 hL1 hlay hno
  go_enter Try.func35, Try.ntmps35
  go_upto_region 1 with fail
  obtain ⟨q, hq⟩ : ∃ q, q = w.heap.size := ⟨_, rfl⟩
  rw [← hq] at k3 ⊢
  have HQ := Lib.hid hq
  clear hq
  generalize w.alloc (.cells #[.int .i64 what, .slice A1 n1 c1, .slice A2 n2 c2, .slice A3 n3 c3, .string ⟨text.toArray⟩] 67) = w1 at *
  have c30 : w1.cell? ⟨q, 0, none⟩ = some (.int .i64 what) := (k3.cell 0).trans rfl
  have hqg : q ≠ g := by have := HQ.out; omega
  have hlt3 := k3.lt
  have hrn := text_any g _ false 200 w1 hw1
  rw [Wr.textR_bytes text s s4] at hrn
  go_upto_region 27 with (first
    | (go_at_call 22; refine hrn.mono ?_; clear hrn; rintro e w4 ⟨hs4, rfl, hw4⟩)
    | fail)
  have c34 : w4.cell? ⟨q, 4, none⟩ = some (.string ⟨text.toArray⟩) := ((k3.same hs4 ⟨hlt3, hqg⟩).cell 4).trans rfl
  have hfin : Same (fun k => k < w.heap.size ∧ k ≠ g) w w4 := ((Same.of_below hb).mono fun k h => h.1).trans (hs4.mono fun k h => ⟨by have := hb.size; have := h.1; omega, h.2⟩)
  clear c30
  go_wp2_with (first
    | (go_at_call 13; refine (numE_any _ _).mono ?_; rintro e w' ⟨rfl, hww⟩; subst hww)
    | fail)
  exact HΦ.out _ _ ⟨rfl, hw4, hfin⟩
theorem readAct_any (g : Nat) (s : List UInt8) (x : ActL) (A1 A2 A3 : Option Addr) (c1 c2 c3 : Nat) (w0 w : World) (hL0 : Later w0 w) (hg0 : w0.heap.size ≤ g) (hok : ActOk w0 x A1 A2 A3 c1 c2 c3) (hs : Wr.small x = true) (hno : Wr.layNo x = 0) (hw : IsRd w g (Wr.lay x ++ s) false) :
    Calls Try.prog 35 #[.pointer (some ⟨g, 0, none⟩), .agg (actA x A1 A2 A3 c1 c2 c3)] w fun e w' => e = .returned (.bool true) ∧ IsRd w' g s false ∧ Same (fun k => k < w.heap.size ∧ k ≠ g) w w' := by
  by_cases h0 : x.what = 0
  · exact read0_any g s x A1 A2 A3 c1 c2 c3 w0 w h0 hL0 hg0 hok hs hno hw
  by_cases h1 : x.what = 1
  · exact read1_any g s x A1 A2 A3 c1 c2 c3 w0 w h1 hL0 hg0 hok hs hno hw
  by_cases h2 : x.what = 2
  · exact read2b_any g s x A1 A2 A3 c1 c2 c3 w0 w h2 hL0 hg0 hok hs hno hw
  exact read3_any g s x A1 A2 A3 c1 c2 c3 w0 w ⟨h0, h1, h2⟩ hL0 hg0 hok hs hno hw
end Go.Proofs.Ytmipaacobioakaa
