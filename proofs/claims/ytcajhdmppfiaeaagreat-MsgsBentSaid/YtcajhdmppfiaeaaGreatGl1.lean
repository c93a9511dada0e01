/- Walks, msgs: the document's terms. -/
import Derived.Test.YtcajhdmppfiaeaaGreatGk24
set_option linter.unusedVariables false
set_option linter.unusedSimpArgs false
namespace Go.Proofs.YtcajhdmppfiaeaaGreat
open Go.RowKit Ms
theorem refWithin_any (n : Int) (w : World) : Calls Tryz.prog 29 #[.int .i64 n] w fun e w' => w' = w ∧ e = .returned (.bool (within n)) := by
  unfold within
  by_cases h : 0 ≤ n
  · have hd : decide (0 ≤ n) = true := decide_eq_true h
    rw [hd, Bool.true_and]
    obtain ⟨c, hc⟩ : ∃ c, decide (n ≤ 2147483647) = c := ⟨_, rfl⟩
    rw [hc]
    go_enter Tryz.func29, Tryz.ntmps29
    go_wp2
    go_ret
    exact ⟨rfl, rfl⟩
  · have hd : decide (0 ≤ n) = false := decide_eq_false h
    rw [hd, Bool.false_and]
    go_enter Tryz.func29, Tryz.ntmps29
    go_wp2
    go_ret
    exact ⟨rfl, rfl⟩
theorem refAmt_any (n : Int) (w : World) : Calls Tryz.prog 30 #[.int .i64 n] w fun e w' => w' = w ∧ e = .returned (.bool (amt n)) := by
  unfold amt
  by_cases h : 0 ≤ n
  · have hd : decide (0 ≤ n) = true := decide_eq_true h
    rw [hd, Bool.true_and]
    obtain ⟨c, hc⟩ : ∃ c, decide (n ≤ 1125899906842624) = c := ⟨_, rfl⟩
    rw [hc]
    go_enter Tryz.func30, Tryz.ntmps30
    go_wp2
    go_ret
    exact ⟨rfl, rfl⟩
  · have hd : decide (0 ≤ n) = false := decide_eq_false h
    rw [hd, Bool.false_and]
    go_enter Tryz.func30, Tryz.ntmps30
    go_wp2
    go_ret
    exact ⟨rfl, rfl⟩
theorem tmB_split (s : Said) : tmB s = (decide (0 ≤ s.tix) && (decide (s.tix < 24) && (decide (1000 ≤ s.cap) && (amt s.cap && (decide (1 ≤ s.dust) && (decide (s.dust ≤ 500) && (decide (0 ≤ s.fee) && (decide (s.fee ≤ 400) && (decide (1 ≤ s.delay) && (decide (s.delay ≤ 1000) && kD s)))))))))) := by
  unfold tmB inB amt
  rw [Bool.eq_iff_iff]
  simp only [Bool.and_eq_true, decide_eq_true_eq, Bool.and_true]
  constructor <;> intro h <;> simp only [h, and_true, true_and] <;> omega
set_option maxRecDepth 100000 in
set_option maxHeartbeats 2000000 in
theorem refTerms_any (s : Said) (hs : s.wf) (w : World) : Calls Tryz.prog 89 #[.agg (termsC s)] w fun e w' => e = .returned (.bool (tmB s)) ∧ Later w w' := by
  have kq := Row.new w 27 (termsC s)
  have hb := below_new w (.cells (termsC s) 27)
  have hbx := boxTerms hs w
  have HB := Lib.hid hb
  clear hb
  rw [tmB_split]
  have HAM := Lib.hid (fun W => refAmt_any s.cap W)
  obtain ⟨b1, h1⟩ : ∃ b, decide (0 ≤ s.tix) = b := ⟨_, rfl⟩
  obtain ⟨b2, h2⟩ : ∃ b, decide (s.tix < 24) = b := ⟨_, rfl⟩
  obtain ⟨b3, h3⟩ : ∃ b, decide (1000 ≤ s.cap) = b := ⟨_, rfl⟩
  obtain ⟨b4, h4⟩ : ∃ b, amt s.cap = b := ⟨_, rfl⟩
  obtain ⟨b5, h5⟩ : ∃ b, decide (1 ≤ s.dust) = b := ⟨_, rfl⟩
  obtain ⟨b6, h6⟩ : ∃ b, decide (s.dust ≤ 500) = b := ⟨_, rfl⟩
  obtain ⟨b7, h7⟩ : ∃ b, decide (0 ≤ s.fee) = b := ⟨_, rfl⟩
  obtain ⟨b8, h8⟩ : ∃ b, decide (s.fee ≤ 400) = b := ⟨_, rfl⟩
  obtain ⟨b9, h9⟩ : ∃ b, decide (1 ≤ s.delay) = b := ⟨_, rfl⟩
  obtain ⟨b10, h10⟩ : ∃ b, decide (s.delay ≤ 1000) = b := ⟨_, rfl⟩
  obtain ⟨b11, h11⟩ : ∃ b, kD s = b := ⟨_, rfl⟩
  rw [h1, h2, h3, h4, h5, h6, h7, h8, h9, h10, h11]
  have HAM := Lib.hid (h4 ▸ HAM.out)
  clear h4
  go_enter Tryz.func89, Tryz.ntmps89
  go_upto_region 1 with fail
  obtain ⟨q, hq⟩ : ∃ q, q = w.heap.size := ⟨_, rfl⟩
  rw [← hq] at kq ⊢
  clear hbx hq
  generalize w.alloc (.cells (termsC s) 27) = w1 at *
  have HK0 := Lib.hid (loadTermK hs kq 0 (by decide))
  have HK1 := Lib.hid (loadTermK hs kq 1 (by decide))
  have HNQ : Hid ((binOp .neq 24 (.agg (hC s.key0)) (.agg (hC s.key1))).run Tryz.prog w1 = .ok (.bool b11) w1) := Lib.hid (h11 ▸ neqHash s.key0 s.key1 (hs 1 (by decide)) (hs 2 (by decide)) w1)
  have c1 : w1.cell? ⟨q, 32, none⟩ = some (.int .i64 s.tix) := (kq.cell _).trans (termsC_n hs 0 (by decide))
  have c2 : w1.cell? ⟨q, 33, none⟩ = some (.int .i64 s.cap) := (kq.cell _).trans (termsC_n hs 1 (by decide))
  have c3 : w1.cell? ⟨q, 34, none⟩ = some (.int .i64 s.dust) := (kq.cell _).trans (termsC_n hs 2 (by decide))
  have c4 : w1.cell? ⟨q, 35, none⟩ = some (.int .i64 s.fee) := (kq.cell _).trans (termsC_n hs 3 (by decide))
  have c5 : w1.cell? ⟨q, 36, none⟩ = some (.int .i64 s.delay) := (kq.cell _).trans (termsC_n hs 4 (by decide))
  clear kq
  cases b1
  · go_wp2_with (first
      | (go_at_call 30; refine (HAM.out _).mono ?_; rintro e w6 ⟨rfl, rfl⟩)
      | fail)
    go_ret
    exact ⟨rfl, HB.out⟩
  cases b2
  · go_wp2_with (first
      | (go_at_call 30; refine (HAM.out _).mono ?_; rintro e w6 ⟨rfl, rfl⟩)
      | fail)
    go_ret
    exact ⟨rfl, HB.out⟩
  cases b3
  · go_wp2_with (first
      | (go_at_call 30; refine (HAM.out _).mono ?_; rintro e w6 ⟨rfl, rfl⟩)
      | fail)
    go_ret
    exact ⟨rfl, HB.out⟩
  cases b4
  · go_wp2_with (first
      | (go_at_call 30; refine (HAM.out _).mono ?_; rintro e w6 ⟨rfl, rfl⟩)
      | fail)
    go_ret
    exact ⟨rfl, HB.out⟩
  cases b5
  · go_wp2_with (first
      | (go_at_call 30; refine (HAM.out _).mono ?_; rintro e w6 ⟨rfl, rfl⟩)
      | fail)
    go_ret
    exact ⟨rfl, HB.out⟩
  cases b6
  · go_wp2_with (first
      | (go_at_call 30; refine (HAM.out _).mono ?_; rintro e w6 ⟨rfl, rfl⟩)
      | fail)
    go_ret
    exact ⟨rfl, HB.out⟩
  cases b7
  · go_wp2_with (first
      | (go_at_call 30; refine (HAM.out _).mono ?_; rintro e w6 ⟨rfl, rfl⟩)
      | fail)
    go_ret
    exact ⟨rfl, HB.out⟩
  cases b8
  · go_wp2_with (first
      | (go_at_call 30; refine (HAM.out _).mono ?_; rintro e w6 ⟨rfl, rfl⟩)
      | fail)
    go_ret
    exact ⟨rfl, HB.out⟩
  cases b9
  · go_wp2_with (first
      | (go_at_call 30; refine (HAM.out _).mono ?_; rintro e w6 ⟨rfl, rfl⟩)
      | fail)
    go_ret
    exact ⟨rfl, HB.out⟩
  cases b10
  · go_wp2_with (first
      | (go_at_call 30; refine (HAM.out _).mono ?_; rintro e w6 ⟨rfl, rfl⟩)
      | fail)
    go_ret
    exact ⟨rfl, HB.out⟩
  go_wp2_with (first
    | (go_at_call 30; refine (HAM.out _).mono ?_; rintro e w6 ⟨rfl, rfl⟩)
    | (guard_target =~ wpList _ _ _ (_ :: _) _ _; refine wpList_loadG rfl 24 (.tmp 53) rfl (.pointer (some ⟨q, 37, none⟩)) rfl HK0.out ?_)
    | (guard_target =~ wpList _ _ _ (_ :: _) _ _; refine wpList_loadG rfl 24 (.tmp 56) rfl (.pointer (some ⟨q, 69, none⟩)) rfl HK1.out ?_)
    | (guard_target =~ wpList _ _ _ (_ :: _) _ _; refine wpList_binG rfl .neq 24 _ (.tmp 54) (.tmp 57) rfl (.agg (hC s.key0)) (.agg (hC s.key1)) rfl rfl (by kernel_rfl) HNQ.out ?_)
    | fail)
  go_ret
  exact ⟨rfl, HB.out⟩
end Go.Proofs.YtcajhdmppfiaeaaGreat
