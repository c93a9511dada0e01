/- Walks: a text laid; any call laid. -/
import Derived.Test.YtmipaacobioakaaWr35
set_option linter.unusedVariables false
set_option linter.unusedSimpArgs false
namespace Go.Proofs.Ytmipaacobioakaa
open Go.RowKit
theorem wrote_later {w W W' : World} {g : Nat} {r r' : Option Nat} (h : Wrote w W g r r') (hL : Later W W') : Wrote w W' g r r' := ⟨h.1.trans ((Same.of_below hL).mono fun j hj => Nat.lt_of_lt_of_le hj.1 h.1.size), h.2⟩
theorem fieldAct4 {g : Nat} (W : World) : (Instr.fieldAt 67 (.pointer (some ⟨g, 0, none⟩)) 4).run Try.prog W = .ok (.pointer (some ⟨g, 4, none⟩)) W := by
  go_simp
set_option maxRecDepth 100000 in
set_option maxHeartbeats 4000000 in
theorem lay3_any (g : Nat) (r : Option Nat) (l0 : List UInt8) (x : ActL) (A1 A2 A3 : Option Addr) (c1 c2 c3 : Nat) (w0 w : World) (hwh : x.what ≠ 0 ∧ x.what ≠ 1 ∧ x.what ≠ 2) (hL0 : Later w0 w) (hg0 : w0.heap.size ≤ g) (hr0 : ∀ k, r = some k → w0.heap.size ≤ k) (hok : ActOk w0 x A1 A2 A3 c1 c2 c3) (hs : Wr.small x = true) (hl0 : l0.length ≤ 50000000) (hw : IsWr w g r l0) :
    Calls Try.prog 25 #[.pointer (some ⟨g, 0, none⟩), .agg (actA x A1 A2 A3 c1 c2 c3)] w (Laid w g r l0 0 (Wr.bytes x.text.length ++ x.text)) := by
  refine Calls.post fun Φ HΦ => ?_
  obtain ⟨s1, s2, s3, s4⟩ := small_parts hs
  have hrk : ∀ k, r = some k → k < w.heap.size := hw.lt.2
  have hb := (Later.refl w).alloc (.cells (actA x A1 A2 A3 c1 c2 c3) 67)
  have k3 := Row.new w 67 (actA x A1 A2 A3 c1 c2 c3)
  have hw1 := hw.later hb
  have hgl := hw.lt
  have d0 : (x.what == 0) = false := by simpa using hwh.1
  have d1 : (x.what == 1) = false := by simpa using hwh.2.1
  have d2 : (x.what == 2) = false := by simpa using hwh.2.2
  unfold actA at k3 hb hw1 ⊢
  generalize x.text = text at *
  generalize x.what = what at *
  generalize x.nums.length = n1 at *
  generalize x.truths.length = n2 at *
  generalize x.hashes.length = n3 at *
  clear hwh hok hs hL0
  go_enter Try.func25, Try.ntmps25
  go_upto_region 2 with fail
  obtain ⟨q, hq⟩ : ∃ q, q = w.heap.size := ⟨_, rfl⟩
  rw [← hq] at k3 ⊢
  have HQ := Lib.hid hq
  clear hq
  generalize w.alloc (.cells #[.int .i64 what, .slice A1 n1 c1, .slice A2 n2 c2, .slice A3 n3 c3, .string ⟨text.toArray⟩] 67) = w1 at *
  have c30 : w1.cell? ⟨q, 0, none⟩ = some (.int .i64 what) := (k3.cell 0).trans rfl
  have hqg : q ≠ g := by have := HQ.out; omega
  have hqr : some q ≠ r := fun h => by have := hrk q h.symm; have := HQ.out; omega
  have hlt3 := k3.lt
  go_upto_region 26 with fail
  refine (wpIn_wide (n := 0)).1 ?_
  refine wpIn_region_lastY wide_wide (fun f ys W => Row W q 67 #[.int .i64 what, .slice A1 n1 c1, .slice A2 n2 c2, .slice A3 n3 c3, .string ⟨text.toArray⟩] ∧ (f 0 = true → ys 0 = .pointer (some ⟨g, 0, none⟩)) ∧ (f 1 = true → ys 1 = .pointer (some ⟨q, 4, none⟩)) ∧ (f 2 = true → ys 2 = .string ⟨text.toArray⟩) ∧ (f 4 = true → ys 4 = .pointer (some ⟨q, 4, none⟩)) ∧ (f 5 = true → ys 5 = .string ⟨text.toArray⟩) ∧ (f 3 = false → Later w1 W) ∧ (f 3 = true → ys 3 = .int .i64 0 ∧ ∃ r', IsWr W g r' (l0 ++ (Wr.bytes text.length ++ text)) ∧ Wrote w1 W g r r') ∧ (f 6 = true → Own 5 W w.heap.size (ys 6) (Wr.bytes text.length ++ text)) ∧ (f 7 = true → f 3 = true ∧ ys 7 = ys 3) ∧ (f 8 = true → f 6 = true ∧ ys 8 = ys 6) ∧ (f 6 = true → f 3 = true)) ⟨k3.drew, by simp, by simp, by simp, by simp, by simp, fun _ => (Later.refl _).drew, by simp, by simp, by simp, by simp, by simp⟩ (by kernel_rfl) (by kernel_rfl) (by kernel_rfl) (by kernel_rfl) (by kernel_rfl) (by kernel_rfl) rfl ⟨?_, ?_, ?_, ?_, ?_, ?_, ?_, ?_, ?_, trivial⟩ ?_
  · intro a W f ys hI he
    obtain ⟨i0, i1, i2, i3, i4, i5, i6, i7, i8, i9, i10, i11⟩ := hI
    refine stepOkY_later rfl ?_ (op_move (R := fun v W' => v = .pointer (some ⟨g, 0, none⟩)) rfl (he.keep (.tmp 0) (by kernel_rfl)))
    rintro v W' hL rfl
    exact ⟨i0.later hL, fun _ => rfl, fun h => i2 h, fun h => i3 h, fun h => i4 h, fun h => i5 h, fun h => (i6 h).step hL, fun h => by { obtain ⟨a1, r', a2, a3⟩ := i7 h; exact ⟨a1, r', a2.later hL, wrote_later a3 hL⟩ }, fun h => (i8 h).later hL, fun h => i9 h, fun h => i10 h, fun h => i11 h⟩
  · intro a W f ys hI he
    obtain ⟨i0, i1, i2, i3, i4, i5, i6, i7, i8, i9, i10, i11⟩ := hI
    refine stepOkY_later rfl ?_ (op_fieldAddr (R := fun v W' => v = .pointer (some ⟨q, 4, none⟩)) rfl (he.keep (.tmp 3) (by kernel_rfl)) (fieldAct4 W) rfl)
    rintro v W' hL rfl
    exact ⟨i0.later hL, fun h => i1 h, fun _ => rfl, fun h => i3 h, fun h => i4 h, fun h => i5 h, fun h => (i6 h).step hL, fun h => by { obtain ⟨a1, r', a2, a3⟩ := i7 h; exact ⟨a1, r', a2.later hL, wrote_later a3 hL⟩ }, fun h => (i8 h).later hL, fun h => i9 h, fun h => i10 h, fun h => i11 h⟩
  · intro a W f ys hI he
    obtain ⟨i0, i1, i2, i3, i4, i5, i6, i7, i8, i9, i10, i11⟩ := hI
    refine stepOkY_later rfl ?_ (op_load (R := fun v W' => v = .string ⟨text.toArray⟩) rfl ((he.val 1 90 (by kernel_rfl) rfl).trans (i2 (he.done 1 (by kernel_rfl)))) (loadStr ((i0.cell 4).trans rfl)) rfl)
    rintro v W' hL rfl
    exact ⟨i0.later hL, fun h => i1 h, fun h => i2 h, fun _ => rfl, fun h => i4 h, fun h => i5 h, fun h => (i6 h).step hL, fun h => by { obtain ⟨a1, r', a2, a3⟩ := i7 h; exact ⟨a1, r', a2.later hL, wrote_later a3 hL⟩ }, fun h => (i8 h).later hL, fun h => i9 h, fun h => i10 h, fun h => i11 h⟩
  · intro a W f ys hI he
    obtain ⟨i0, i1, i2, i3, i4, i5, i6, i7, i8, i9, i10, i11⟩ := hI
    have e89 : a.eval (.tmp 89) = .pointer (some ⟨g, 0, none⟩) := (he.val 0 89 (by kernel_rfl) rfl).trans (i1 (he.done 0 (by kernel_rfl)))
    have e91 : a.eval (.tmp 91) = .string ⟨text.toArray⟩ := (he.val 2 91 (by kernel_rfl) rfl).trans (i3 (he.done 2 (by kernel_rfl)))
    have hf3 : f 3 = false := he.todo
    have hL := i6 hf3
    refine stepOkY_want rfl (op_callFK (vs := #[.pointer (some ⟨g, 0, none⟩), .string ⟨text.toArray⟩]) rfl (by simp only [List.map_toArray, List.map_cons, List.map_nil, e89, e91]) (enters_of Try.func28 (by kernel_rfl) rfl) ?_)
    refine (wText_any g r l0 text W (by omega) (by omega) (hw1.later hL)).mono ?_
    rintro e W' (⟨h, _⟩ | ⟨_, rfl, r', hwr, hwt⟩)
    · omega
    refine ⟨_, rfl, _, rfl, i0.same hwt.1 ⟨i0.lt, hqg, hqr⟩, fun h => i1 h, fun h => i2 h, fun h => i3 h, fun h => i4 h, fun h => i5 h, (fun h => by cases h), fun _ => ⟨rfl, r', hwr, Wrote.later0 hL hwt⟩, ?_, ?_, fun h => i10 h, fun _ => rfl⟩
    · intro h; have := i11 h; rw [hf3] at this; cases this
    · intro h; have := (i9 h).1; rw [hf3] at this; cases this
  · intro a W f ys hI he
    obtain ⟨i0, i1, i2, i3, i4, i5, i6, i7, i8, i9, i10, i11⟩ := hI
    refine stepOkY_later rfl ?_ (op_fieldAddr (R := fun v W' => v = .pointer (some ⟨q, 4, none⟩)) rfl (he.keep (.tmp 3) (by kernel_rfl)) (fieldAct4 W) rfl)
    rintro v W' hL rfl
    exact ⟨i0.later hL, fun h => i1 h, fun h => i2 h, fun h => i3 h, fun _ => rfl, fun h => i5 h, fun h => (i6 h).step hL, fun h => by { obtain ⟨a1, r', a2, a3⟩ := i7 h; exact ⟨a1, r', a2.later hL, wrote_later a3 hL⟩ }, fun h => (i8 h).later hL, fun h => i9 h, fun h => i10 h, fun h => i11 h⟩
  · intro a W f ys hI he
    obtain ⟨i0, i1, i2, i3, i4, i5, i6, i7, i8, i9, i10, i11⟩ := hI
    refine stepOkY_later rfl ?_ (op_load (R := fun v W' => v = .string ⟨text.toArray⟩) rfl ((he.val 4 93 (by kernel_rfl) rfl).trans (i4 (he.done 4 (by kernel_rfl)))) (loadStr ((i0.cell 4).trans rfl)) rfl)
    rintro v W' hL rfl
    exact ⟨i0.later hL, fun h => i1 h, fun h => i2 h, fun h => i3 h, fun h => i4 h, fun _ => rfl, fun h => (i6 h).step hL, fun h => by { obtain ⟨a1, r', a2, a3⟩ := i7 h; exact ⟨a1, r', a2.later hL, wrote_later a3 hL⟩ }, fun h => (i8 h).later hL, fun h => i9 h, fun h => i10 h, fun h => i11 h⟩
  · intro a W f ys hI he
    obtain ⟨i0, i1, i2, i3, i4, i5, i6, i7, i8, i9, i10, i11⟩ := hI
    have e94 : a.eval (.tmp 94) = .string ⟨text.toArray⟩ := (he.val 5 94 (by kernel_rfl) rfl).trans (i5 (he.done 5 (by kernel_rfl)))
    have hf3 : f 3 = true := he.done 3 (by kernel_rfl)
    have hf6 : f 6 = false := he.todo
    have hsW : w.heap.size ≤ W.heap.size := by
      obtain ⟨_, r', _, a3⟩ := i7 hf3
      exact Nat.le_trans hb.size a3.1.size
    refine stepOkY_later (R' := fun v W' => Own 5 W' w.heap.size v (Wr.bytes text.length ++ text)) rfl ?_ (op_callF (vs := #[.string ⟨text.toArray⟩]) rfl (by simp only [List.map_toArray, List.map_cons, List.map_nil, e94]) (enters_of Try.func58 (by kernel_rfl) rfl) ((refText_any text W (by omega)).mono fun e W' ⟨v, he', hown, hL'⟩ => ⟨v, he', hL', hown.mono hsW⟩))
    rintro v W' hL hown
    refine ⟨i0.later hL, fun h => i1 h, fun h => i2 h, fun h => i3 h, fun h => i4 h, fun h => i5 h, fun h => (i6 h).step hL, fun h => by { obtain ⟨a1, r', a2, a3⟩ := i7 h; exact ⟨a1, r', a2.later hL, wrote_later a3 hL⟩ }, fun _ => hown, fun h => i9 h, ?_, fun _ => hf3⟩
    intro h; have := (i10 h).1; rw [hf6] at this; cases this
  · intro a W f ys hI he
    obtain ⟨i0, i1, i2, i3, i4, i5, i6, i7, i8, i9, i10, i11⟩ := hI
    refine stepOkY_later rfl ?_ (op_assign (R := fun v W' => v = ys 3) rfl (he.val 3 92 (by kernel_rfl) rfl))
    rintro v W' hL rfl
    exact ⟨i0.later hL, fun h => i1 h, fun h => i2 h, fun h => i3 h, fun h => i4 h, fun h => i5 h, fun h => (i6 h).step hL, fun h => by { obtain ⟨a1, r', a2, a3⟩ := i7 h; exact ⟨a1, r', a2.later hL, wrote_later a3 hL⟩ }, fun h => (i8 h).later hL, fun _ => ⟨he.done 3 (by kernel_rfl), rfl⟩, fun h => i10 h, fun h => i11 h⟩
  · intro a W f ys hI he
    obtain ⟨i0, i1, i2, i3, i4, i5, i6, i7, i8, i9, i10, i11⟩ := hI
    refine stepOkY_later rfl ?_ (op_assign (R := fun v W' => v = ys 6) rfl (he.val 6 95 (by kernel_rfl) rfl))
    rintro v W' hL rfl
    exact ⟨i0.later hL, fun h => i1 h, fun h => i2 h, fun h => i3 h, fun h => i4 h, fun h => i5 h, fun h => (i6 h).step hL, fun h => by { obtain ⟨a1, r', a2, a3⟩ := i7 h; exact ⟨a1, r', a2.later hL, wrote_later a3 hL⟩ }, fun h => (i8 h).later hL, fun h => i9 h, fun _ => ⟨he.done 6 (by kernel_rfl), rfl⟩, fun h => i11 h⟩
  · intro f ys W hI hd _ hk hgt
    obtain ⟨i0, i1, i2, i3, i4, i5, i6, i7, i8, i9, i10, i11⟩ := hI
    obtain ⟨e3, r', hwr, hwt⟩ := i7 (hd 3 (by decide))
    have hown := i8 (hd 6 (by decide))
    obtain ⟨_, e7⟩ := i9 (hd 7 (by decide))
    obtain ⟨_, e8⟩ := i10 (hd 8 (by decide))
    refine last_assign (vx := .int .i64 0) rfl rfl ?_
    obtain ⟨A9, n9, c9, e9⟩ := hown.shape
    rw [e9] at hown
    have e7' := e7.trans e3
    have e8' := e8.trans e9
    have hfin : Wrote w W g r r' := ⟨((Same.of_below hb).mono fun j hj => hj.1).trans (hwt.1.mono fun j hj => ⟨Nat.lt_of_lt_of_le hj.1 hb.size, hj.2⟩), fun j e => (hwt.2 j e).imp id (fun h => Nat.le_trans hb.size h)⟩
    clear hk hgt hd i0 i1 i2 i3 i4 i5 i6 i7 i8 i9 i10 i11 e3 e7 e8 e9 hwt
    simp only [initL, lastL, putL, Nat.reduceAdd, Act.put, List.setIfInBounds_toArray, List.set_cons_succ, List.set_cons_zero]
    rw [e7', e8']
    go_wp2_with fail
    exact bodyPost_ret (results3 rfl _ _ rfl rfl rfl) rfl (HΦ.out _ _ ⟨_, r', rfl, hown, hwr, hfin⟩)
/-- What is laid by a call, and the error's number. -/
def Wr.lay (x : ActL) : List UInt8 := if x.what = 0 then (if x.nums.any Wr.wrong then [] else Wr.nums x.nums) else if x.what = 1 then Wr.truths x.truths else if x.what = 2 then x.hashes.flatten else Wr.bytes x.text.length ++ x.text
def Wr.layNo (x : ActL) : Int := if x.what = 0 then (if x.nums.any Wr.wrong then 2 else 0) else 0
theorem lay_any (g : Nat) (r : Option Nat) (l0 : List UInt8) (x : ActL) (A1 A2 A3 : Option Addr) (c1 c2 c3 : Nat) (w0 w : World) (hL0 : Later w0 w) (hg0 : w0.heap.size ≤ g) (hr0 : ∀ k, r = some k → w0.heap.size ≤ k) (hok : ActOk w0 x A1 A2 A3 c1 c2 c3) (hs : Wr.small x = true) (hl0 : l0.length ≤ 50000000) (hw : IsWr w g r l0) :
    Calls Try.prog 25 #[.pointer (some ⟨g, 0, none⟩), .agg (actA x A1 A2 A3 c1 c2 c3)] w (Laid w g r l0 (Wr.layNo x) (Wr.lay x)) := by
  unfold Wr.layNo Wr.lay
  by_cases h0 : x.what = 0
  · rw [if_pos h0, if_pos h0]; exact lay0_any g r l0 x A1 A2 A3 c1 c2 c3 w0 w h0 hL0 hg0 hr0 hok hs hl0 hw
  rw [if_neg h0, if_neg h0]
  by_cases h1 : x.what = 1
  · rw [if_pos h1]; exact lay1_any g r l0 x A1 A2 A3 c1 c2 c3 w0 w h1 hL0 hg0 hr0 hok hs hl0 hw
  rw [if_neg h1]
  by_cases h2 : x.what = 2
  · rw [if_pos h2]; exact lay2_any g r l0 x A1 A2 A3 c1 c2 c3 w0 w h2 hL0 hg0 hr0 hok hs hl0 hw
  rw [if_neg h2]
  exact lay3_any g r l0 x A1 A2 A3 c1 c2 c3 w0 w ⟨h0, h1, h2⟩ hL0 hg0 hr0 hok hs hl0 hw
theorem Wr.lay_len {x : ActL} (hs : Wr.small x = true) (h32 : ∀ h ∈ x.hashes, h.length = 32) : (Wr.lay x).length ≤ 400 := by
  obtain ⟨s1, s2, s3, s4⟩ := small_parts hs
  have a1 := Wr.nums_len x.nums
  have a2 := flat_len32 x.hashes h32
  have a3 := Wr.bytes_le x.text.length
  unfold Wr.lay
  split
  · split
    · simp
    · omega
  · split
    · simp [Wr.truths]; omega
    · split
      · omega
      · rw [List.length_append]; omega
end Go.Proofs.Ytmipaacobioakaa
