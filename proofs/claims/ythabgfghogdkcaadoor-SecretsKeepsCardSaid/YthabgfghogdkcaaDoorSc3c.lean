/- Walks, secrets: Down, Secret, Point, by the program and by the document. -/
import Derived.Test.YthabgfghogdkcaaDoorSc3b
set_option linter.unusedVariables false
set_option linter.unusedSimpArgs false
namespace Go.Proofs.YthabgfghogdkcaaDoor
open Go.RowKit
/-- The block of the parameter and that of the result, behind a function's head. -/
structure Two (w w1 : World) (g : Nat) (h : List UInt8) : Prop where
  row : Row w1 g 23 (hC h)
  res : Row w1 (g + 1) 23 (hC [])
  below : Below w.heap.size w w1
  at_ : w.heap.size ≤ g
theorem two_of (w : World) (h : List UInt8) : Two w ((w.alloc (.cells (hC h) 23)).alloc (.cells (hC []) 23)) w.heap.size h := by
  have k := Row.new (w.alloc (.cells (hC h) 23)) 23 (hC [])
  rw [World.size_alloc] at k
  exact ⟨(Row.new w 23 (hC h)).alloc _, k, below_new2 w _ _, Nat.le_refl _⟩
/-- The result's block is set. -/
theorem Two.out {w w1 w2 : World} {g : Nat} {h x : List UInt8} (t : Two w w1 g h) (hb : Below w1.heap.size w1 w2) (hx : x.length ≤ 32) :
    ∃ w3, (Instr.storeAt 23 (.pointer (some ⟨g + 1, 0, none⟩)) (.agg (hC x))).run Tryd.prog w2 = .ok () w3 ∧ Row w3 (g + 1) 23 (hC x) ∧ Below w.heap.size w w3 := by
  obtain ⟨w3, h1, h2, h3⟩ := storeH (a := []) (b := x) (by decide) hx (t.res.belowAll hb)
  have hb2 : Below w.heap.size w w2 := t.below.trans (hb.mono t.below.size)
  exact ⟨w3, h1, h2, hb2.grown h3 hb2.size (fun j e => by cases e; have := t.at_; omega)⟩
def Sec.downR (h : List UInt8) (n ix : Int) : List UInt8 × Int := if inB n 31 && inB ix 2147483647 then (Sec.down h n.toNat ix.toNat, 0) else ([], 2)
theorem inB_nat {n most : Int} (h : inB n most = true) : ∃ k : Nat, n = k ∧ (k : Int) ≤ most := by
  unfold inB at h
  simp only [Bool.and_eq_true, decide_eq_true_eq] at h
  exact ⟨n.toNat, by omega, by omega⟩
theorem not_true {b : Bool} (h : ¬ b = true) : b = false := by simpa using h
set_option maxHeartbeats 1000000 in
set_option maxRecDepth 100000 in
theorem secDown_any (h : List UInt8) (n ix : Int) (w : World) (hl : h.length = 32) :
    Calls Tryd.prog 7 #[.agg (hC h), .int .i64 n, .int .i64 ix] w fun e w' => e = .returned (.tuple #[.agg (hC (Sec.downR h n ix).1), .int .i64 (Sec.downR h n ix).2]) ∧ Below w.heap.size w w' := by
  have T := two_of w h
  have hbx := boxH h hl
  have hlr : (Sec.downR h n ix).1.length ≤ 32 := by
    unfold Sec.downR
    split
    · exact Nat.le_of_eq (Sec.down_len _ _ _ hl)
    · exact Nat.zero_le _
  by_cases hin : (inB n 31 && inB ix 2147483647) = true
  · obtain ⟨h1, h2⟩ := Bool.and_eq_true_iff.1 hin
    have hR : Sec.downR h n ix = (Sec.down h n.toNat ix.toNat, 0) := if_pos hin
    obtain ⟨k, rfl, hk⟩ := inB_nat h1
    obtain ⟨j, rfl, hj⟩ := inB_nat h2
    rw [hR] at hlr ⊢
    clear hR hin
    simp only [Int.toNat_natCast] at hlr ⊢
    have hcall := fun W => down_any h k j W hl (by omega) (by omega)
    generalize Sec.down h k j = y at *
    have HLR := Lib.hid hlr
    have HL := Lib.hid hl
    clear hlr hl
    go_enter Tryd.func7, Tryd.ntmps7
    go_upto_region 1 with (first
      | (with_reducible refine wpList_box rfl 23 (.tmp 0) rfl (.agg (hC h)) rfl (hbx _) ?_)
      | (with_reducible refine wpList_alloc rfl 23 rfl (allocH _) ?_)
      | fail)
    obtain ⟨g, hg⟩ : ∃ g, g = w.heap.size := ⟨_, rfl⟩
    rw [← hg] at T
    try simp only [World.size_alloc]
    rw [← hg]
    clear hg hbx
    generalize (w.alloc (.cells (hC h) 23)).alloc (.cells (hC []) 23) = w1 at *
    have hld := loadH HL.out T.row
    go_wp2_with (first
      | (go_at_call 23; refine (in_any _ _ _).mono ?_; rintro e w2 ⟨rfl, rfl⟩)
      | (go_at_call 24; refine (in64_any _ _ _).mono ?_; rintro e w2 ⟨rfl, rfl⟩)
      | (refine wpList_load rfl 23 (.tmp 3) rfl (.pointer (some ⟨g, 0, none⟩)) rfl hld ?_)
      | (go_at_call 25; refine (hcall _).mono ?_; clear hcall; rintro e w4 ⟨rfl, hb4⟩; obtain ⟨w5, hst, hr5, hb5⟩ := T.out hb4 HLR.out)
      | (refine wpList_store rfl 23 (.tmp 6) (.tmp 20) rfl (.pointer (some ⟨g + 1, 0, none⟩)) (.agg (hC y)) rfl rfl hst ?_)
      | fail)
    exact bodyPost_ret (results_cell_tmp rfl _ _ (g + 1) 23 (hC y) (0, 0) _ (.int .i64 0) rfl rfl hr5 Tryd.underlying23 rfl (by rw [hC_size _ HLR.out]; exact infoH)) rfl ⟨rfl, hb5⟩
  · have hin := not_true hin
    have hR : Sec.downR h n ix = ([], 2) := by unfold Sec.downR; rw [if_neg (by rw [hin]; decide)]
    rw [hR]
    clear hR hlr
    by_cases h1 : inB n 31 = true
    · have h2 : inB ix 2147483647 = false := by rw [h1, Bool.true_and] at hin; exact hin
      clear hin
      go_enter Tryd.func7, Tryd.ntmps7
      go_upto_region 1 with (first
        | (with_reducible refine wpList_box rfl 23 (.tmp 0) rfl (.agg (hC h)) rfl (hbx _) ?_)
        | (with_reducible refine wpList_alloc rfl 23 rfl (allocH _) ?_)
        | fail)
      obtain ⟨g, hg⟩ : ∃ g, g = w.heap.size := ⟨_, rfl⟩
      rw [← hg] at T
      try simp only [World.size_alloc]
      rw [← hg]
      clear hg hbx
      generalize (w.alloc (.cells (hC h) 23)).alloc (.cells (hC []) 23) = w1 at *
      obtain ⟨w5, hst, hr5, hb5⟩ := T.out (x := []) (Below.refl _ _) (by decide)
      go_wp2_with (first
        | (go_at_call 23; refine (in_any _ _ _).mono ?_; rintro e w2 ⟨rfl, rfl⟩)
        | (go_at_call 24; refine (in64_any _ _ _).mono ?_; rintro e w2 ⟨rfl, rfl⟩)
        | (refine wpList_buildC rfl 23 _ rfl #[] rfl (buildH0 _) ?_)
        | (refine wpList_store rfl 23 (.tmp 6) (.tmp 16) rfl (.pointer (some ⟨g + 1, 0, none⟩)) (.agg (hC [])) rfl rfl hst ?_)
        | fail)
      exact bodyPost_ret (results_cell_tmp rfl _ _ (g + 1) 23 (hC []) (0, 0) _ (.int .i64 2) rfl rfl hr5 Tryd.underlying23 rfl (by rw [hC_size _ (by decide)]; exact infoH)) rfl ⟨rfl, hb5⟩
    · have h1 := not_true h1
      clear hin
      go_enter Tryd.func7, Tryd.ntmps7
      go_upto_region 1 with (first
        | (with_reducible refine wpList_box rfl 23 (.tmp 0) rfl (.agg (hC h)) rfl (hbx _) ?_)
        | (with_reducible refine wpList_alloc rfl 23 rfl (allocH _) ?_)
        | fail)
      obtain ⟨g, hg⟩ : ∃ g, g = w.heap.size := ⟨_, rfl⟩
      rw [← hg] at T
      try simp only [World.size_alloc]
      rw [← hg]
      clear hg hbx
      generalize (w.alloc (.cells (hC h) 23)).alloc (.cells (hC []) 23) = w1 at *
      obtain ⟨w5, hst, hr5, hb5⟩ := T.out (x := []) (Below.refl _ _) (by decide)
      go_wp2_with (first
        | (go_at_call 23; refine (in_any _ _ _).mono ?_; rintro e w2 ⟨rfl, rfl⟩)
        | (go_at_call 24; refine (in64_any _ _ _).mono ?_; rintro e w2 ⟨rfl, rfl⟩)
        | (refine wpList_buildC rfl 23 _ rfl #[] rfl (buildH0 _) ?_)
        | (refine wpList_store rfl 23 (.tmp 6) (.tmp 16) rfl (.pointer (some ⟨g + 1, 0, none⟩)) (.agg (hC [])) rfl rfl hst ?_)
        | fail)
      exact bodyPost_ret (results_cell_tmp rfl _ _ (g + 1) 23 (hC []) (0, 0) _ (.int .i64 2) rfl rfl hr5 Tryd.underlying23 rfl (by rw [hC_size _ (by decide)]; exact infoH)) rfl ⟨rfl, hb5⟩
def Sec.secR (seed : List UInt8) (n : Int) : List UInt8 × Int := if inB n 2147483647 then (Sec.D seed (2147483647 - n.toNat), 0) else ([], 2)
theorem Sec.secR_len (seed : List UInt8) (n : Int) (h : seed.length = 32) : (Sec.secR seed n).1.length ≤ 32 := by
  unfold Sec.secR
  split
  · exact Nat.le_of_eq (Sec.D_len _ _ h)
  · exact Nat.zero_le _
set_option maxHeartbeats 1000000 in
set_option maxRecDepth 100000 in
theorem secret_any (seed : List UInt8) (n : Int) (w : World) (hl : seed.length = 32) :
    Calls Tryd.prog 15 #[.agg (hC seed), .int .i64 n] w fun e w' => e = .returned (.tuple #[.agg (hC (Sec.secR seed n).1), .int .i64 (Sec.secR seed n).2]) ∧ Below w.heap.size w w' := by
  have T := two_of w seed
  have hbx := boxH seed hl
  have hlr := Sec.secR_len seed n hl
  by_cases hin : inB n 2147483647 = true
  · have hR : Sec.secR seed n = (Sec.D seed (2147483647 - n.toNat), 0) := if_pos hin
    obtain ⟨k, rfl, hk⟩ := inB_nat hin
    rw [hR] at hlr ⊢
    clear hR
    simp only [Int.toNat_natCast] at hlr ⊢
    have hsub : (2147483647 : Int) - (k : Int) = ((2147483647 - k : Nat) : Int) := by omega
    have hcall := fun W => down_any seed 31 (2147483647 - k) W hl (by decide) (by omega)
    rw [← hsub] at hcall
    have hDD : Sec.down seed 31 (2147483647 - k) = Sec.D seed (2147483647 - k) := rfl
    rw [hDD] at hcall
    generalize Sec.D seed (2147483647 - k) = y at *
    have HLR := Lib.hid hlr
    have HL := Lib.hid hl
    clear hlr hl hsub hDD
    go_enter Tryd.func15, Tryd.ntmps15
    go_upto_region 1 with (first
      | (with_reducible refine wpList_box rfl 23 (.tmp 0) rfl (.agg (hC seed)) rfl (hbx _) ?_)
      | (with_reducible refine wpList_alloc rfl 23 rfl (allocH _) ?_)
      | fail)
    obtain ⟨g, hg⟩ : ∃ g, g = w.heap.size := ⟨_, rfl⟩
    rw [← hg] at T
    try simp only [World.size_alloc]
    rw [← hg]
    clear hg hbx
    generalize (w.alloc (.cells (hC seed) 23)).alloc (.cells (hC []) 23) = w1 at *
    have hld := loadH HL.out T.row
    go_wp2_with (first
      | (go_at_call 24; refine (in64_any _ _ _).mono ?_; rintro e w2 ⟨rfl, rfl⟩)
      | (refine wpList_load rfl 23 (.tmp 2) rfl (.pointer (some ⟨g, 0, none⟩)) rfl hld ?_)
      | (go_at_call 25; refine (hcall _).mono ?_; clear hcall; rintro e w4 ⟨rfl, hb4⟩; obtain ⟨w5, hst, hr5, hb5⟩ := T.out hb4 HLR.out)
      | (refine wpList_store rfl 23 (.tmp 4) (.tmp 13) rfl (.pointer (some ⟨g + 1, 0, none⟩)) (.agg (hC y)) rfl rfl hst ?_)
      | fail)
    exact bodyPost_ret (results_cell_tmp rfl _ _ (g + 1) 23 (hC y) (0, 0) _ (.int .i64 0) rfl rfl hr5 Tryd.underlying23 rfl (by rw [hC_size _ HLR.out]; exact infoH)) rfl ⟨rfl, hb5⟩
  · have hin := not_true hin
    have hR : Sec.secR seed n = ([], 2) := by unfold Sec.secR; rw [if_neg (by rw [hin]; decide)]
    rw [hR]
    clear hR hlr
    skip
    all_goals
      go_enter Tryd.func15, Tryd.ntmps15
      go_upto_region 1 with (first
        | (with_reducible refine wpList_box rfl 23 (.tmp 0) rfl (.agg (hC seed)) rfl (hbx _) ?_)
        | (with_reducible refine wpList_alloc rfl 23 rfl (allocH _) ?_)
        | fail)
      obtain ⟨g, hg⟩ : ∃ g, g = w.heap.size := ⟨_, rfl⟩
      rw [← hg] at T
      try simp only [World.size_alloc]
      rw [← hg]
      clear hg hbx
      generalize (w.alloc (.cells (hC seed) 23)).alloc (.cells (hC []) 23) = w1 at *
      obtain ⟨w5, hst, hr5, hb5⟩ := T.out (x := []) (Below.refl _ _) (by decide)
      go_wp2_with (first
        | (go_at_call 24; refine (in64_any _ _ _).mono ?_; rintro e w2 ⟨rfl, rfl⟩)
        | (refine wpList_buildC rfl 23 _ rfl #[] rfl (buildH0 _) ?_)
        | (refine wpList_store rfl 23 (.tmp 4) (.tmp 9) rfl (.pointer (some ⟨g + 1, 0, none⟩)) (.agg (hC [])) rfl rfl hst ?_)
        | fail)
      exact bodyPost_ret (results_cell_tmp rfl _ _ (g + 1) 23 (hC []) (0, 0) _ (.int .i64 2) rfl rfl hr5 Tryd.underlying23 rfl (by rw [hC_size _ (by decide)]; exact infoH)) rfl ⟨rfl, hb5⟩
set_option maxHeartbeats 1000000 in
set_option maxRecDepth 100000 in
theorem refSecret_any (seed : List UInt8) (n : Int) (w : World) (hl : seed.length = 32) :
    Calls Tryd.prog 12 #[.agg (hC seed), .int .i64 n] w fun e w' => e = .returned (.tuple #[.agg (hC (Sec.secR seed n).1), .int .i64 (Sec.secR seed n).2]) ∧ Below w.heap.size w w' := by
  have T := two_of w seed
  have hbx := boxH seed hl
  have hlr := Sec.secR_len seed n hl
  by_cases hin : inB n 2147483647 = true
  · have hR : Sec.secR seed n = (Sec.D seed (2147483647 - n.toNat), 0) := if_pos hin
    obtain ⟨k, rfl, hk⟩ := inB_nat hin
    rw [hR] at hlr ⊢
    clear hR
    simp only [Int.toNat_natCast] at hlr ⊢
    have hsub : (2147483647 : Int) - (k : Int) = ((2147483647 - k : Nat) : Int) := by omega
    have hcall := fun W => refDown_any seed 31 (2147483647 - k) W hl (by decide) (by omega)
    rw [← hsub] at hcall
    have hDD : Sec.down seed 31 (2147483647 - k) = Sec.D seed (2147483647 - k) := rfl
    rw [hDD] at hcall
    generalize Sec.D seed (2147483647 - k) = y at *
    clear hin
    have HLR := Lib.hid hlr
    have HL := Lib.hid hl
    clear hlr hl hsub hDD
    go_enter Tryd.func12, Tryd.ntmps12
    go_upto_region 1 with (first
      | (with_reducible refine wpList_box rfl 23 (.tmp 0) rfl (.agg (hC seed)) rfl (hbx _) ?_)
      | (with_reducible refine wpList_alloc rfl 23 rfl (allocH _) ?_)
      | fail)
    obtain ⟨g, hg⟩ : ∃ g, g = w.heap.size := ⟨_, rfl⟩
    rw [← hg] at T
    try simp only [World.size_alloc]
    rw [← hg]
    clear hg hbx
    generalize (w.alloc (.cells (hC seed) 23)).alloc (.cells (hC []) 23) = w1 at *
    have hld := loadH HL.out T.row
    go_wp2_with (first
      | fail
      | (refine wpList_load rfl 23 (.tmp 2) rfl (.pointer (some ⟨g, 0, none⟩)) rfl hld ?_)
      | (go_at_call 10; refine (hcall _).mono ?_; clear hcall; rintro e w4 ⟨rfl, hb4⟩; obtain ⟨w5, hst, hr5, hb5⟩ := T.out hb4 HLR.out)
      | (refine wpList_store rfl 23 (.tmp 4) (.tmp 16) rfl (.pointer (some ⟨g + 1, 0, none⟩)) (.agg (hC y)) rfl rfl hst ?_)
      | fail)
    exact bodyPost_ret (results_cell_tmp rfl _ _ (g + 1) 23 (hC y) (0, 0) _ (.int .i64 0) rfl rfl hr5 Tryd.underlying23 rfl (by rw [hC_size _ HLR.out]; exact infoH)) rfl ⟨rfl, hb5⟩
  · have hin := not_true hin
    have hR : Sec.secR seed n = ([], 2) := by unfold Sec.secR; rw [if_neg (by rw [hin]; decide)]
    rw [hR]
    clear hR hlr
    have hor : n < 0 ∨ (0 ≤ n ∧ 2147483647 < n) := by
      unfold inB at hin
      simp only [Bool.and_eq_false_iff, decide_eq_false_iff_not] at hin
      omega
    clear hin
    rcases hor with hor | ⟨h0, h1⟩
    all_goals
      go_enter Tryd.func12, Tryd.ntmps12
      go_upto_region 1 with (first
        | (with_reducible refine wpList_box rfl 23 (.tmp 0) rfl (.agg (hC seed)) rfl (hbx _) ?_)
        | (with_reducible refine wpList_alloc rfl 23 rfl (allocH _) ?_)
        | fail)
      obtain ⟨g, hg⟩ : ∃ g, g = w.heap.size := ⟨_, rfl⟩
      rw [← hg] at T
      try simp only [World.size_alloc]
      rw [← hg]
      clear hg hbx
      generalize (w.alloc (.cells (hC seed) 23)).alloc (.cells (hC []) 23) = w1 at *
      obtain ⟨w5, hst, hr5, hb5⟩ := T.out (x := []) (Below.refl _ _) (by decide)
      go_wp2_with (first
        | fail
        | (refine wpList_buildC rfl 23 _ rfl #[] rfl (buildH0 _) ?_)
        | (refine wpList_store rfl 23 (.tmp 4) (.tmp 12) rfl (.pointer (some ⟨g + 1, 0, none⟩)) (.agg (hC [])) rfl rfl hst ?_)
        | fail)
      exact bodyPost_ret (results_cell_tmp rfl _ _ (g + 1) 23 (hC []) (0, 0) _ (.int .i64 2) rfl rfl hr5 Tryd.underlying23 rfl (by rw [hC_size _ (by decide)]; exact infoH)) rfl ⟨rfl, hb5⟩
theorem Sec.point_lit : (⟨#[112, 111, 105, 110, 116]⟩ : ByteArray) = ⟨([112, 111, 105, 110, 116] : List UInt8).toArray⟩ := rfl
def Sec.point (s : List UInt8) : List UInt8 := Sha.sum (Sha.sum [112, 111, 105, 110, 116] ++ Sha.sum [112, 111, 105, 110, 116] ++ s)
set_option maxHeartbeats 1000000 in
set_option maxRecDepth 100000 in
theorem point_any (s : List UInt8) (w : World) (hl : s.length = 32) :
    Calls Tryd.prog 16 #[.agg (hC s)] w fun e w' => e = .returned (.agg (hC (Sec.point s))) ∧ Below w.heap.size w w' := by
  have T := two_of w s
  have hbx := boxH s hl
  have hpl : (Sec.point s).length = 32 := Sha.sum_len _
  have HL := Lib.hid hl
  have HPL := Lib.hid hpl
  clear hl hpl
  go_enter Tryd.func16, Tryd.ntmps16
  go_upto_region 1 with (first
    | (with_reducible refine wpList_box rfl 23 (.tmp 0) rfl (.agg (hC s)) rfl (hbx _) ?_)
    | (with_reducible refine wpList_alloc rfl 23 rfl (allocH _) ?_)
    | fail)
  obtain ⟨g, hg⟩ : ∃ g, g = w.heap.size := ⟨_, rfl⟩
  rw [← hg] at T
  try simp only [World.size_alloc]
  rw [← hg]
  clear hg hbx
  generalize (w.alloc (.cells (hC s) 23)).alloc (.cells (hC []) 23) = w1 at *
  have hcall := named_any [112, 111, 105, 110, 116] (some ⟨w1.heap.size, 0, none⟩) 1 1 [s] _ (by decide) rfl (by decide) (by simp only [List.flatten_cons, List.flatten_nil, List.append_nil]; rw [HL.out]; decide) (RdsC.one 40 (rfl : w1.heap.size = _) (rd_hash HL.out T.row) HL.out (Nat.le_refl 32) (by decide))
  simp only [List.flatten_cons, List.flatten_nil, List.append_nil] at hcall
  have hpp : Sha.sum (Sha.sum [112, 111, 105, 110, 116] ++ Sha.sum [112, 111, 105, 110, 116] ++ s) = Sec.point s := rfl
  rw [hpp] at hcall
  obtain ⟨y, hy⟩ : ∃ y, Sec.point s = y := ⟨_, rfl⟩
  rw [hy] at hcall HPL
  have HY := Lib.hid hy
  clear hpp hy
  go_wp2_with (first
    | (refine wpList_slice0 rfl 23 (.tmp 1) rfl (.pointer (some ⟨g, 0, none⟩)) rfl (sliceHash _) ?_)
    | (refine wpList_buildSl rfl 98 1 _ rfl #[(0, .slice (some ⟨g, 0, none⟩) 32 32)] rfl (build1S _ _ _ _) ?_)
    | (go_at_call 34; refine hcall.mono ?_; clear hcall; rintro e w4 ⟨rfl, hb4⟩; obtain ⟨w5, hst, hr5, hb5⟩ := T.out ((below_new w1 (.cells #[.slice (some ⟨g, 0, none⟩) 32 32] 40)).trans (hb4.mono (below_new w1 (.cells #[.slice (some ⟨g, 0, none⟩) 32 32] 40)).size)) (Nat.le_of_eq HPL.out))
    | (refine wpList_store rfl 23 (.tmp 2) (.tmp 5) rfl (.pointer (some ⟨g + 1, 0, none⟩)) (.agg (hC y)) rfl rfl hst ?_)
    | fail)
  exact bodyPost_ret (results_cell_row rfl _ _ (g + 1) 23 (hC y) (0, 0) _ rfl hr5 Tryd.underlying23 rfl (by rw [hC_size _ (Nat.le_of_eq HPL.out)]; exact infoH)) rfl ⟨by rw [HY.out], hb5⟩
set_option maxHeartbeats 1000000 in
set_option maxRecDepth 100000 in
theorem refPoint_any (s : List UInt8) (w : World) (hl : s.length = 32) :
    Calls Tryd.prog 17 #[.agg (hC s)] w fun e w' => e = .returned (.agg (hC (Sec.point s))) ∧ Below w.heap.size w w' := by
  have T := two_of w s
  have hbx := boxH s hl
  have hpl : (Sec.point s).length = 32 := Sha.sum_len _
  have HL := Lib.hid hl
  have HPL := Lib.hid hpl
  clear hl hpl
  go_enter Tryd.func17, Tryd.ntmps17
  go_upto_region 1 with (first
    | (with_reducible refine wpList_box rfl 23 (.tmp 0) rfl (.agg (hC s)) rfl (hbx _) ?_)
    | (with_reducible refine wpList_alloc rfl 23 rfl (allocH _) ?_)
    | fail)
  obtain ⟨g, hg⟩ : ∃ g, g = w.heap.size := ⟨_, rfl⟩
  rw [← hg] at T
  try simp only [World.size_alloc]
  rw [← hg]
  clear hg hbx
  generalize (w.alloc (.cells (hC s) 23)).alloc (.cells (hC []) 23) = w1 at *
  have hcall := refNamed_any [112, 111, 105, 110, 116] (some ⟨g, 0, none⟩) 32 32 s w1 (by decide) HL.out (by decide) (rd_hash HL.out T.row)
  have hpp : Sha.sum (Sha.sum [112, 111, 105, 110, 116] ++ Sha.sum [112, 111, 105, 110, 116] ++ s) = Sec.point s := rfl
  rw [hpp] at hcall
  obtain ⟨y, hy⟩ : ∃ y, Sec.point s = y := ⟨_, rfl⟩
  rw [hy] at hcall HPL
  have HY := Lib.hid hy
  clear hpp hy
  go_wp2_with (first
    | (refine wpList_slice0 rfl 23 (.tmp 1) rfl (.pointer (some ⟨g, 0, none⟩)) rfl (sliceHash _) ?_)
    | (go_at_call 35; refine hcall.mono ?_; clear hcall; rintro e w4 ⟨rfl, hb4⟩; obtain ⟨w5, hst, hr5, hb5⟩ := T.out hb4 (Nat.le_of_eq HPL.out))
    | (refine wpList_store rfl 23 (.tmp 2) (.tmp 4) rfl (.pointer (some ⟨g + 1, 0, none⟩)) (.agg (hC y)) rfl rfl hst ?_)
    | fail)
  exact bodyPost_ret (results_cell_row rfl _ _ (g + 1) 23 (hC y) (0, 0) _ rfl hr5 Tryd.underlying23 rfl (by rw [hC_size _ (Nat.le_of_eq HPL.out)]; exact infoH)) rfl ⟨by rw [HY.out], hb5⟩
end Go.Proofs.YthabgfghogdkcaaDoor
