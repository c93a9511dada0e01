/- Walks: a call laid: numbers, truths, hashes. -/
import Derived.Test.YtmipaacobioakaaWr34
set_option linter.unusedVariables false
set_option linter.unusedSimpArgs false
namespace Go.Proofs.Ytmipaacobioakaa
open Go.RowKit
/-- What is told of a call that was laid: the number of the error, the bytes. -/
def Laid (w : World) (g : Nat) (r : Option Nat) (l0 : List UInt8) (no : Int) (out : List UInt8) (e : Ending) (w' : World) : Prop :=
  ∃ v r', e = .returned (.tuple #[.int .i64 no, v, .int .i64 no]) ∧ Own 5 w' w.heap.size v out ∧ IsWr w' g r' (l0 ++ out) ∧ Wrote w w' g r r'
theorem RdV.lt {w : World} {A : Option Addr} {vs : List Value} (h : RdV w A vs) {b o : Nat} (e : A = some ⟨b, o, none⟩) (hne : vs ≠ []) : b < w.heap.size := by
  obtain ⟨b', o', e', hc⟩ := h hne
  have e2 := e.symm.trans e'
  injection e2 with e2
  injection e2 with e3 e4
  subst e3
  exact block_lt_of_cell (hc 0 (List.length_pos_iff.2 hne))
theorem RdH.lt {w : World} {A : Option Addr} {hs : List (List UInt8)} (h : RdH w A hs) {b o : Nat} (e : A = some ⟨b, o, none⟩) (hne : hs ≠ []) : b < w.heap.size := by
  obtain ⟨b', o', e', hc⟩ := h hne
  have e2 := e.symm.trans e'
  injection e2 with e2
  injection e2 with e3 e4
  subst e3
  have h0 : 0 < hs.length := List.length_pos_iff.2 hne
  obtain ⟨v, hv⟩ := hC_first hs[0]
  exact block_lt_of_cell (hc 0 h0 0 v hv)
theorem sliceHashAt {g o : Nat} (W : World) : (Instr.sliceAt 53 (.pointer (some ⟨g, o, none⟩)) none none none).run Try.prog W = .ok (.slice (some ⟨g, o, none⟩) 32 32) W := by
  obtain ⟨i, hi0, hz, hs, hb⟩ := info_parts info5
  simp [Instr.sliceAt, run_underlying Try.underlying53, sizeOf, typeInfo, hi0, hs, go_sem]
theorem rd_hashAt {w : World} {b o : Nat} {h : List UInt8} (hl : h.length = 32) (hr : w.rangeAt b o (hC h).toList) : Rd w (some ⟨b, o, none⟩) h := fun _ =>
  ⟨_, _, rfl, fun i hi => hr i _ (by rw [Array.getElem?_toList]; exact hC_get h i hi (by omega))⟩
theorem small_parts {x : ActL} (h : Wr.small x = true) : x.nums.length ≤ 10 ∧ x.truths.length ≤ 10 ∧ x.hashes.length ≤ 10 ∧ x.text.length ≤ 200 := by
  unfold Wr.small at h
  simp at h
  exact ⟨h.1.1.1, h.1.1.2, h.1.2, h.2⟩
abbrev actA (x : ActL) (A1 A2 A3 : Option Addr) (c1 c2 c3 : Nat) : Array Value := #[.int .i64 x.what, .slice A1 x.nums.length c1, .slice A2 x.truths.length c2, .slice A3 x.hashes.length c3, .string ⟨x.text.toArray⟩]
set_option maxRecDepth 100000 in
set_option maxHeartbeats 4000000 in
theorem lay0_any (g : Nat) (r : Option Nat) (l0 : List UInt8) (x : ActL) (A1 A2 A3 : Option Addr) (c1 c2 c3 : Nat) (w0 w : World) (hwh : x.what = 0) (hL0 : Later w0 w) (hg0 : w0.heap.size ≤ g) (hr0 : ∀ k, r = some k → w0.heap.size ≤ k) (hok : ActOk w0 x A1 A2 A3 c1 c2 c3) (hs : Wr.small x = true) (hl0 : l0.length ≤ 50000000) (hw : IsWr w g r l0) :
    Calls Try.prog 25 #[.pointer (some ⟨g, 0, none⟩), .agg (actA x A1 A2 A3 c1 c2 c3)] w (Laid w g r l0 (if x.nums.any Wr.wrong then 2 else 0) (if x.nums.any Wr.wrong then [] else Wr.nums x.nums)) := by
  refine Calls.post fun Φ HΦ => ?_
  obtain ⟨s1, s2, s3, s4⟩ := small_parts hs
  have m1 := Nat.le_trans hok.n1 hok.m1
  have m2 := Nat.le_trans hok.n2 hok.m2
  have m3 := Nat.le_trans hok.n3 hok.m3
  have k3 := Row.new w 67 (actA x A1 A2 A3 c1 c2 c3)
  have hb := (Later.refl w).alloc (.cells (actA x A1 A2 A3 c1 c2 c3) 67)
  have hw1 := hw.later hb
  have hL1 := hL0.step hb
  have hgl := hw.lt
  obtain ⟨what, nums, truths, hashes, text⟩ := x
  simp only at hwh s1 s2 s3 s4 m1 m2 m3
  subst hwh
  have hwn := wNumber_any g r l0 A1 nums.length c1 nums (w.alloc (.cells (actA ⟨0, nums, truths, hashes, text⟩ A1 A2 A3 c1 c2 c3) 67)) rfl (by omega) (by omega) (hok.r1.below hL1) (fun b o e hne => by have := hok.r1.lt e (by simpa using hne); exact ⟨by omega, fun h => by have := hr0 b h.symm; omega⟩) hw1
  have hrt := fun W (hL : Later w0 W) => right_any A1 nums.length c1 nums W rfl (by omega) (hok.r1.below hL)
  have hrk : ∀ k, r = some k → k < w.heap.size := hw.lt.2
  simp only at HΦ hs
  obtain ⟨n1, hn1⟩ : ∃ n, nums.length = n := ⟨_, rfl⟩
  unfold actA at k3 hL1 hb hw1 hwn ⊢
  simp only [hn1] at k3 hL1 hb hw1 hwn hrt s1 ⊢
  generalize truths.length = n2 at *
  generalize hashes.length = n3 at *
  go_enter Try.func25, Try.ntmps25
  go_upto_region 2 with fail
  obtain ⟨q, hq⟩ : ∃ q, q = w.heap.size := ⟨_, rfl⟩
  rw [← hq] at k3 ⊢
  have HQ := Lib.hid hq
  have HN := Lib.hid hn1
  clear hq hn1
  generalize w.alloc (.cells #[.int .i64 0, .slice A1 n1 c1, .slice A2 n2 c2, .slice A3 n3 c3, .string ⟨text.toArray⟩] 67) = w1 at *
  have c30 : w1.cell? ⟨q, 0, none⟩ = some (.int .i64 0) := (k3.cell 0).trans rfl
  have c31 : w1.cell? ⟨q, 1, none⟩ = some (.slice A1 n1 c1) := (k3.cell 1).trans rfl
  have hqg : q ≠ g := by have := HQ.out; omega
  have hqr : some q ≠ r := fun h => by have := hrk q h.symm; have := HQ.out; omega
  have hrt1 := hrt w1 hL1
  cases hany : nums.any Wr.wrong with
  | true =>
    rw [hany] at hrt1
    rw [hany] at HΦ
    go_wp2_with (first
      | (go_at_call 11; refine hwn.mono ?_; clear hwn; rintro e w2 (⟨_, rfl, rfl⟩ | ⟨h, _⟩); rotate_left; exact absurd h (by rw [hany]; decide))
      | (go_at_call 12; refine hrt1.mono ?_; clear hrt1; rintro e w3 ⟨rfl, rfl⟩)
      | fail)
    exact bodyPost_ret (results3 rfl _ _ rfl rfl rfl) rfl (HΦ.out _ _ ⟨_, r, rfl, Own.nil _ _ _, by rw [if_pos trivial, List.append_nil]; exact hw1, (Same.of_below hb).mono (fun k h => h.1), fun k h => .inl h⟩)
  | false =>
    rw [hany] at HΦ
    have HANY := Lib.hid hany
    clear hrt1 hany
    go_upto_region 5 with (first
      | (go_at_call 11; refine hwn.mono ?_; clear hwn; rintro e w2 (⟨h, _⟩ | ⟨_, rfl, r2, hw2, hwr2⟩); exact absurd h (by rw [HANY.out]; decide))
      | fail)
    have hlt3 := k3.lt
    have k32 := k3.same hwr2.1 ⟨hlt3, hqg, hqr⟩
    have hL2 := later_of_wrote hL1 hg0 hr0 hwr2
    have hrt2 := hrt w2 hL2
    rw [HANY.out] at hrt2
    have c312 : w2.cell? ⟨q, 1, none⟩ = some (.slice A1 n1 c1) := (k32.cell 1).trans rfl
    clear k3 c30 c31 hw1 hL1 hqg hqr hlt3
    go_upto_region 7 with (first
      | (go_at_call 12; refine hrt2.mono ?_; clear hrt2; rintro e w3 ⟨rfl, rfl⟩)
      | fail)
    go_wp2_with fail
    go_loopw [7, 9] (fun u t wr => ∃ i : Nat, i ≤ n1 ∧ t = .int .i64 (i : Int) ∧ Own 5 wr w2.heap.size u (Wr.nums (nums.take i)) ∧ Later w2 wr) (fun _ t _ => n1 - (intOf t).toNat)
    case atStart => exact ⟨0, by omega, rfl, by simpa [Wr.nums] using Own.nil _ _ _, Later.refl _⟩
    case round =>
      obtain ⟨i, hi, rfl, hown, hLr⟩ := hrel
      have c31r := hLr.cell c312
      by_cases hlt : i < n1
      · have hd : decide ((i : Int) < (n1 : Int)) = true := decide_eq_true (by omega)
        have hd' : decide (i < n1) = true := decide_eq_true hlt
        have hil : i < nums.length := by rw [HN.out]; exact hlt
        obtain ⟨b, o, rfl, hc⟩ := (hok.r1.below (hL2.step hLr)).at_ (k := i) (by simpa using hil)
        have hnx : nums.take (i + 1) = nums.take i ++ [nums[i]] := List.take_succ_eq_append_getElem hil
        have hnw : Wr.wrong nums[i] = false := by
          have := HANY.out
          rw [List.any_eq_false] at this
          simpa using this _ (List.getElem_mem hil)
        rw [List.getElem_map] at hc
        generalize nums[i] = y at *
        obtain ⟨z, rfl⟩ : ∃ z : Nat, y = z := ⟨y.toNat, by unfold Wr.wrong at hnw; simp at hnw; omega⟩
        have hz : z < 9223372036854775808 := by unfold Wr.wrong at hnw; simp at hnw; omega
        have hnu : Wr.nums (nums.take (i + 1)) = Wr.nums (nums.take i) ++ Wr.bytes z := by rw [hnx]; simp [Wr.nums, Wr.nb_nat]
        have hlen : (Wr.nums (nums.take i)).length ≤ 90 := by have := Wr.nums_len (nums.take i); rw [List.length_take] at this; omega
        have hbl := Wr.bytes_le z
        have href := refNumber_any z wr hz
        have HNU := Lib.hid hnu
        clear hnx hnw hnu
        go_wp2_with (first
          | (go_at_call 15; refine href.mono ?_; clear href; rintro e w4 ⟨v4, rfl, hown4, hL4⟩; obtain ⟨A4, c4, rfl, hc4, _, hrd4⟩ := hown4.slice; have hown' := hown.later hL4; have hL24 := hLr.step hL4)
          | (at_builtin; refine wpList_append_bytes rfl (.tmp 34) (.tmp 40) 22 rfl w2.heap.size 5 Try.underlying22 byteInfo _ _ rfl hown' A4 _ c4 (Wr.bytes z) rfl rfl hrd4 (by omega) hL24.size ?_; intro v5 w5 hown5 hg5 hat5; have hL5 := hL24.grown hg5 hL24.size (fun j e => (hown'.at_ j e).1))
          | fail)
        go_roundw
        case rel => exact ⟨i + 1, by omega, by go_num, by rw [HNU.out]; exact hown5, hL5⟩
        case measure => simp [intOf]; omega
      · obtain rfl : i = n1 := by omega
        have hd : decide ((i : Int) < (i : Int)) = false := decide_eq_false (by omega)
        have hd' : decide (i < i) = false := decide_eq_false (by omega)
        rw [List.take_of_length_le (by rw [HN.out]; exact Nat.le_refl _)] at hown
        have hsz := hwr2.1.size
        have hw2r := hw2.later hLr
        have hwrr : Wrote w wr g r r2 := ⟨(((Same.of_below hb).mono fun j hj => hj.1).trans (hwr2.1.mono fun j hj => ⟨Nat.lt_of_lt_of_le hj.1 hb.size, hj.2⟩)).trans ((Same.of_below hLr).mono fun j hj => Nat.lt_of_lt_of_le hj.1 (Nat.le_trans hb.size hsz)), fun j e => (hwr2.2 j e).imp id (fun h => Nat.le_trans hb.size h)⟩
        have hownw := hown.mono (b' := w.heap.size) (Nat.le_trans hb.size hsz)
        clear hown hLr hw2 hwr2 c312
        go_wp2_with fail
        exact bodyPost_ret (results3 rfl _ _ rfl rfl rfl) rfl (HΦ.out _ _ ⟨_, r2, rfl, by rw [if_neg (by simp)]; exact hownw, by rw [if_neg (by simp)]; exact hw2r, hwrr⟩)
set_option maxRecDepth 100000 in
set_option maxHeartbeats 4000000 in
theorem lay1_any (g : Nat) (r : Option Nat) (l0 : List UInt8) (x : ActL) (A1 A2 A3 : Option Addr) (c1 c2 c3 : Nat) (w0 w : World) (hwh : x.what = 1) (hL0 : Later w0 w) (hg0 : w0.heap.size ≤ g) (hr0 : ∀ k, r = some k → w0.heap.size ≤ k) (hok : ActOk w0 x A1 A2 A3 c1 c2 c3) (hs : Wr.small x = true) (hl0 : l0.length ≤ 50000000) (hw : IsWr w g r l0) :
    Calls Try.prog 25 #[.pointer (some ⟨g, 0, none⟩), .agg (actA x A1 A2 A3 c1 c2 c3)] w (Laid w g r l0 0 (Wr.truths x.truths)) := by
  refine Calls.post fun Φ HΦ => ?_
  obtain ⟨s1, s2, s3, s4⟩ := small_parts hs
  have m1 := Nat.le_trans hok.n1 hok.m1
  have m2 := Nat.le_trans hok.n2 hok.m2
  have m3 := Nat.le_trans hok.n3 hok.m3
  have k3 := Row.new w 67 (actA x A1 A2 A3 c1 c2 c3)
  have hb := (Later.refl w).alloc (.cells (actA x A1 A2 A3 c1 c2 c3) 67)
  have hw1 := hw.later hb
  have hL1 := hL0.step hb
  have hgl := hw.lt
  obtain ⟨what, nums, truths, hashes, text⟩ := x
  simp only at hwh s1 s2 s3 s4 m1 m2 m3
  subst hwh
  have hwn := wTruth_any g r l0 A2 truths.length c2 truths (w.alloc (.cells (actA ⟨1, nums, truths, hashes, text⟩ A1 A2 A3 c1 c2 c3) 67)) rfl (by omega) (by omega) (hok.r2.below hL1) (fun b o e hne => by have := hok.r2.lt e (by simpa using hne); exact ⟨by omega, fun h => by have := hr0 b h.symm; omega⟩) hw1
  have hrk : ∀ k, r = some k → k < w.heap.size := hw.lt.2
  simp only at HΦ hs
  obtain ⟨n1, hn1⟩ : ∃ n, truths.length = n := ⟨_, rfl⟩
  unfold actA at k3 hL1 hb hw1 hwn ⊢
  simp only [hn1] at k3 hL1 hb hw1 hwn s2 ⊢
  have HN := Lib.hid hn1
  clear hn1
  generalize nums.length = a1 at *
  generalize hashes.length = a3 at *
  go_enter Try.func25, Try.ntmps25
  go_upto_region 2 with fail
  obtain ⟨q, hq⟩ : ∃ q, q = w.heap.size := ⟨_, rfl⟩
  rw [← hq] at k3 ⊢
  have HQ := Lib.hid hq
  clear hq
  generalize w.alloc (.cells #[.int .i64 1, .slice A1 a1 c1, .slice A2 n1 c2, .slice A3 a3 c3, .string ⟨text.toArray⟩] 67) = w1 at *
  have c30 : w1.cell? ⟨q, 0, none⟩ = some (.int .i64 1) := (k3.cell 0).trans rfl
  have c31 : w1.cell? ⟨q, 2, none⟩ = some (.slice A2 n1 c2) := (k3.cell 2).trans rfl
  have hqg : q ≠ g := by have := HQ.out; omega
  have hqr : some q ≠ r := fun h => by have := hrk q h.symm; have := HQ.out; omega
  go_upto_region 14 with (first
    | (go_at_call 26; refine hwn.mono ?_; clear hwn; rintro e w2 ⟨rfl, r2, hw2, hwr2⟩)
    | fail)
  have hlt3 := k3.lt
  have k32 := k3.same hwr2.1 ⟨hlt3, hqg, hqr⟩
  have hL2 := later_of_wrote hL1 hg0 hr0 hwr2
  have c312 : w2.cell? ⟨q, 2, none⟩ = some (.slice A2 n1 c2) := (k32.cell 2).trans rfl
  clear k3 c30 c31 hw1 hL1 hqg hqr hlt3
  go_wp2_with fail
  go_loopw [7, 11] (fun u t wr => ∃ i : Nat, i ≤ n1 ∧ t = .int .i64 (i : Int) ∧ Own 5 wr w2.heap.size u (Wr.truths (truths.take i)) ∧ Later w2 wr) (fun _ t _ => n1 - (intOf t).toNat)
  case atStart => exact ⟨0, by omega, rfl, by simpa [Wr.truths] using Own.nil _ _ _, Later.refl _⟩
  case round =>
    obtain ⟨i, hi, rfl, hown, hLr⟩ := hrel
    have c31r := hLr.cell c312
    by_cases hlt : i < n1
    · have hd : decide ((i : Int) < (n1 : Int)) = true := decide_eq_true (by omega)
      have hd' : decide (i < n1) = true := decide_eq_true hlt
      have hil : i < truths.length := by rw [HN.out]; exact hlt
      obtain ⟨b, o, rfl, hc⟩ := (hok.r2.below (hL2.step hLr)).at_ (k := i) (by simpa using hil)
      have hnx : truths.take (i + 1) = truths.take i ++ [truths[i]] := List.take_succ_eq_append_getElem hil
      rw [List.getElem_map] at hc
      generalize truths[i] = y at *
      have hnu : Wr.truths (truths.take (i + 1)) = Wr.truths (truths.take i) ++ [if y then 1 else 0] := by rw [hnx]; simp [Wr.truths]
      have hlen : (Wr.truths (truths.take i)).length ≤ 90 := by simp [Wr.truths]; omega
      have href := refTruth_any y wr
      have HNU := Lib.hid hnu
      clear hnx hnu
      go_wp2_with (first
        | (go_at_call 57; refine href.mono ?_; clear href; rintro e w4 ⟨v4, rfl, hown4, hL4⟩; obtain ⟨A4, c4, rfl, hc4, _, hrd4⟩ := hown4.slice; have hown' := hown.later hL4; have hL24 := hLr.step hL4)
        | (at_builtin; refine wpList_append_bytes rfl (.tmp 57) (.tmp 63) 22 rfl w2.heap.size 5 Try.underlying22 byteInfo _ _ rfl hown' A4 _ c4 [if y then 1 else 0] rfl rfl hrd4 (by simp; omega) hL24.size ?_; intro v5 w5 hown5 hg5 hat5; have hL5 := hL24.grown hg5 hL24.size (fun j e => (hown'.at_ j e).1))
        | fail)
      go_roundw
      case rel => exact ⟨i + 1, by omega, by go_num, by rw [HNU.out]; exact hown5, hL5⟩
      case measure => simp [intOf]; omega
    · obtain rfl : i = n1 := by omega
      have hd : decide ((i : Int) < (i : Int)) = false := decide_eq_false (by omega)
      have hd' : decide (i < i) = false := decide_eq_false (by omega)
      rw [List.take_of_length_le (by rw [HN.out]; exact Nat.le_refl _)] at hown
      have hsz := hwr2.1.size
      have hw2r := hw2.later hLr
      have hwrr : Wrote w wr g r r2 := ⟨(((Same.of_below hb).mono fun j hj => hj.1).trans (hwr2.1.mono fun j hj => ⟨Nat.lt_of_lt_of_le hj.1 hb.size, hj.2⟩)).trans ((Same.of_below hLr).mono fun j hj => Nat.lt_of_lt_of_le hj.1 (Nat.le_trans hb.size hsz)), fun j e => (hwr2.2 j e).imp id (fun h => Nat.le_trans hb.size h)⟩
      have hownw := hown.mono (b' := w.heap.size) (Nat.le_trans hb.size hsz)
      clear hown hLr hw2 hwr2 c312
      go_wp2_with fail
      exact bodyPost_ret (results3 rfl _ _ rfl rfl rfl) rfl (HΦ.out _ _ ⟨_, r2, rfl, hownw, hw2r, hwrr⟩)
set_option maxRecDepth 100000 in
set_option maxHeartbeats 4000000 in
theorem lay2_any (g : Nat) (r : Option Nat) (l0 : List UInt8) (x : ActL) (A1 A2 A3 : Option Addr) (c1 c2 c3 : Nat) (w0 w : World) (hwh : x.what = 2) (hL0 : Later w0 w) (hg0 : w0.heap.size ≤ g) (hr0 : ∀ k, r = some k → w0.heap.size ≤ k) (hok : ActOk w0 x A1 A2 A3 c1 c2 c3) (hs : Wr.small x = true) (hl0 : l0.length ≤ 50000000) (hw : IsWr w g r l0) :
    Calls Try.prog 25 #[.pointer (some ⟨g, 0, none⟩), .agg (actA x A1 A2 A3 c1 c2 c3)] w (Laid w g r l0 0 x.hashes.flatten) := by
  refine Calls.post fun Φ HΦ => ?_
  obtain ⟨s1, s2, s3, s4⟩ := small_parts hs
  have m1 := Nat.le_trans hok.n1 hok.m1
  have m2 := Nat.le_trans hok.n2 hok.m2
  have m3 := Nat.le_trans hok.n3 hok.m3
  have k3 := Row.new w 67 (actA x A1 A2 A3 c1 c2 c3)
  have hb := (Later.refl w).alloc (.cells (actA x A1 A2 A3 c1 c2 c3) 67)
  have hw1 := hw.later hb
  have hL1 := hL0.step hb
  have hgl := hw.lt
  obtain ⟨what, nums, truths, hashes, text⟩ := x
  simp only at hwh s1 s2 s3 s4 m1 m2 m3
  subst hwh
  have hwn := wHash_any g r l0 A3 hashes.length c3 hashes (w.alloc (.cells (actA ⟨2, nums, truths, hashes, text⟩ A1 A2 A3 c1 c2 c3) 67)) rfl (by omega) hok.h32 (by omega) (hok.r3.below hL1) (fun b o e hne => by have := hok.r3.lt e hne; exact ⟨by omega, fun h => by have := hr0 b h.symm; omega⟩) hw1
  have hrk : ∀ k, r = some k → k < w.heap.size := hw.lt.2
  simp only at HΦ hs
  obtain ⟨n1, hn1⟩ : ∃ n, hashes.length = n := ⟨_, rfl⟩
  unfold actA at k3 hL1 hb hw1 hwn ⊢
  simp only [hn1] at k3 hL1 hb hw1 hwn s3 ⊢
  have HN := Lib.hid hn1
  clear hn1
  generalize nums.length = a1 at *
  generalize truths.length = a2 at *
  go_enter Try.func25, Try.ntmps25
  go_upto_region 2 with fail
  obtain ⟨q, hq⟩ : ∃ q, q = w.heap.size := ⟨_, rfl⟩
  rw [← hq] at k3 ⊢
  have HQ := Lib.hid hq
  clear hq
  generalize w.alloc (.cells #[.int .i64 2, .slice A1 a1 c1, .slice A2 a2 c2, .slice A3 n1 c3, .string ⟨text.toArray⟩] 67) = w1 at *
  have c30 : w1.cell? ⟨q, 0, none⟩ = some (.int .i64 2) := (k3.cell 0).trans rfl
  have c31 : w1.cell? ⟨q, 3, none⟩ = some (.slice A3 n1 c3) := (k3.cell 3).trans rfl
  have hqg : q ≠ g := by have := HQ.out; omega
  have hqr : some q ≠ r := fun h => by have := hrk q h.symm; have := HQ.out; omega
  go_upto_region 21 with (first
    | (go_at_call 27; refine hwn.mono ?_; clear hwn; rintro e w2 ⟨rfl, r2, hw2, hwr2⟩)
    | fail)
  have hlt3 := k3.lt
  have k32 := k3.same hwr2.1 ⟨hlt3, hqg, hqr⟩
  have hL2 := later_of_wrote hL1 hg0 hr0 hwr2
  have c312 : w2.cell? ⟨q, 3, none⟩ = some (.slice A3 n1 c3) := (k32.cell 3).trans rfl
  clear k3 c30 c31 hw1 hL1 hqg hqr hlt3
  go_wp2_with fail
  go_loopw [7, 13] (fun u t wr => ∃ i : Nat, i ≤ n1 ∧ t = .int .i64 (i : Int) ∧ Own 5 wr w2.heap.size u ((hashes.take i).flatten) ∧ Later w2 wr) (fun _ t _ => n1 - (intOf t).toNat)
  case atStart => exact ⟨0, by omega, rfl, by simpa  using Own.nil _ _ _, Later.refl _⟩
  case round =>
    obtain ⟨i, hi, rfl, hown, hLr⟩ := hrel
    have c31r := hLr.cell c312
    by_cases hlt : i < n1
    · have hd : decide ((i : Int) < (n1 : Int)) = true := decide_eq_true (by omega)
      have hd' : decide (i < n1) = true := decide_eq_true hlt
      have hil : i < hashes.length := by rw [HN.out]; exact hlt
      obtain ⟨b, o, rfl, hcs⟩ := hok.r3.below (hL2.step hLr) (by intro e; subst e; simp at hil)
      have hc := hcs i hil
      have hy := hok.h32 _ (List.getElem_mem hil)
      have hnu : (hashes.take (i + 1)).flatten = (hashes.take i).flatten ++ hashes[i] := by rw [List.take_succ_eq_append_getElem hil, List.flatten_append]; simp
      have hlen : (hashes.take i).flatten.length ≤ 32 * n1 := Nat.le_trans (flat_len32 _ (fun h hh => hok.h32 h (List.mem_of_mem_take hh))) (by rw [List.length_take]; omega)
      generalize hashes[i] = y at *
      have hrdy := rd_hashAt hy hc
      have HNU := Lib.hid hnu
      have HY := Lib.hid hy
      have hL24 := hLr
      clear hcs hc hnu hy
      go_wp2_with (first
        | (refine wpList_slice0 rfl 53 (.tmp 84) rfl (.pointer (some ⟨b, o + i * 32, none⟩)) rfl (sliceHashAt _) ?_)
        | (at_builtin; refine wpList_append_bytes rfl (.tmp 80) (.tmp 85) 22 rfl w2.heap.size 5 Try.underlying22 byteInfo _ _ rfl hown _ 32 32 y rfl HY.out hrdy (by omega) hL24.size ?_; intro v5 w5 hown5 hg5 hat5; have hL5 := hL24.grown hg5 hL24.size (fun j e => (hown.at_ j e).1))
        | fail)
      go_roundw
      case rel => exact ⟨i + 1, by omega, by go_num, by rw [HNU.out]; exact hown5, hL5⟩
      case measure => simp [intOf]; omega
    · obtain rfl : i = n1 := by omega
      have hd : decide ((i : Int) < (i : Int)) = false := decide_eq_false (by omega)
      have hd' : decide (i < i) = false := decide_eq_false (by omega)
      rw [List.take_of_length_le (by rw [HN.out]; exact Nat.le_refl _)] at hown
      have hsz := hwr2.1.size
      have hw2r := hw2.later hLr
      have hwrr : Wrote w wr g r r2 := ⟨(((Same.of_below hb).mono fun j hj => hj.1).trans (hwr2.1.mono fun j hj => ⟨Nat.lt_of_lt_of_le hj.1 hb.size, hj.2⟩)).trans ((Same.of_below hLr).mono fun j hj => Nat.lt_of_lt_of_le hj.1 (Nat.le_trans hb.size hsz)), fun j e => (hwr2.2 j e).imp id (fun h => Nat.le_trans hb.size h)⟩
      have hownw := hown.mono (b' := w.heap.size) (Nat.le_trans hb.size hsz)
      clear hown hLr hw2 hwr2 c312
      go_wp2_with fail
      exact bodyPost_ret (results3 rfl _ _ rfl rfl rfl) rfl (HΦ.out _ _ ⟨_, r2, rfl, hownw, hw2r, hwrr⟩)
end Go.Proofs.Ytmipaacobioakaa
