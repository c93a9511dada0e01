/- Walks: the law SecretsGets. -/
import Derived.Test.YthabgfghogdkcaaDoorSc15
set_option linter.unusedVariables false
set_option linter.unusedSimpArgs false
namespace Go.Proofs.YthabgfghogdkcaaDoor
open Go.RowKit
/-- A keep of a seed, of which so many were put, lies in memory. -/
def SeedKeep (W : World) (g : Nat) (l : List UInt8) (k : Nat) : Prop := IsKeep W g (k : Int) (Sec.keptIx k) (Sec.keptSc l k)
theorem seedKeep_new {w : World} {g : Nat} {l : List UInt8} (h : Row w g 60 (kC 0 (fun _ => 0) (fun _ => []) true)) : SeedKeep w g l 0 := by
  unfold SeedKeep
  rw [Sec.keptIx_zero, Sec.keptSc_zero]
  exact isKeep_new h
/-- The next secret of the seed is put. -/
theorem seed_put (g k : Nat) (l : List UInt8) (w : World) (hT : Tabs w) (hl : l.length = 32) (hk : SeedKeep w g l k) (hc : k < 201) :
    Calls Tryd.prog 13 #[.pointer (some ⟨g, 0, none⟩), .int .i64 (k : Int), .agg (hC (Sec.D l (2147483647 - k)))] w fun e w' => e = .returned (.int .i64 0) ∧ SeedKeep w' g l (k + 1) ∧ Same (fun k => k < w.heap.size ∧ k ≠ g) w w' := by
  have hf := Sec.kept_fits l k hc
  have h1 := Sec.keptIx_step k hc
  have h2 := Sec.keptSc_step l k hc
  have h := put_ok g k (Sec.place (2147483647 - k)) (Sec.keptIx k) (Sec.keptSc l k) (Sec.D l (2147483647 - k)) w hT hk (Sec.D_len _ _ hl) (by omega) rfl (Sec.put_facts k hc).1 (by rw [h1, h2]; exact hf)
  rw [h1, h2] at h
  exact h
theorem seed_get (g c m : Nat) (l : List UInt8) (w : World) (hT : Tabs w) (hl : l.length = 32) (hk : SeedKeep w g l c) (hc : c < 201) (hm : m < c) :
    Calls Tryd.prog 14 #[.pointer (some ⟨g, 0, none⟩), .int .i64 (m : Int)] w fun r w' => r = .returned (.tuple #[.agg (hC (Sec.D l (2147483647 - m))), .int .i64 0]) ∧ Below w.heap.size w w' := by
  obtain ⟨a, h1, h2, h3, h4⟩ := Sec.get_facts l c m hc hm
  rw [← h4]
  exact get_ok g c m a _ _ w hT hk (by omega) hm h1 h2 h3
/-- What Get tells of a keep of a seed. -/
def Sec.getR (l : List UInt8) (c : Nat) (n : Int) : List UInt8 × Int := if (Sec.secR l n).2 = 0 ∧ (c : Int) ≤ n then ([], 5) else Sec.secR l n
theorem seed_get_any (g c : Nat) (n : Int) (l : List UInt8) (w : World) (hT : Tabs w) (hl : l.length = 32) (hk : SeedKeep w g l c) (hc : c < 201) :
    Calls Tryd.prog 14 #[.pointer (some ⟨g, 0, none⟩), .int .i64 n] w fun r w' => r = .returned (.tuple #[.agg (hC (Sec.getR l c n).1), .int .i64 (Sec.getR l c n).2]) ∧ Below w.heap.size w w' := by
  by_cases hin : inB n 2147483647 = true
  · have hR : Sec.secR l n = (Sec.D l (2147483647 - n.toNat), 0) := if_pos hin
    obtain ⟨m, rfl, hm⟩ := inB_nat hin
    unfold Sec.getR
    rw [hR]
    by_cases hcm : (c : Int) ≤ (m : Int)
    · rw [if_pos ⟨rfl, hcm⟩]
      exact get_no g c m _ _ 5 w hk.row (.inr ⟨hin, hcm, rfl⟩)
    · rw [if_neg (fun h => hcm h.2)]
      exact seed_get g c m l w hT hl hk hc (by omega)
  · have hin := not_true hin
    have hR : Sec.secR l n = ([], 2) := by unfold Sec.secR; rw [if_neg (by rw [hin]; decide)]
    unfold Sec.getR
    rw [hR, if_neg (fun h => by cases h.1)]
    exact get_no g c n _ _ 2 w hk.row (.inl ⟨hin, rfl⟩)
set_option maxRecDepth 100000 in
set_option maxHeartbeats 8000000 in
theorem secretsGets_bad (l : List UInt8) (n m : Int) (w : World) (hl : l.length = 32) (hT : Tabs w) (hbad : n < 0 ∨ (0 ≤ n ∧ 100 < n)) :
    Calls Tryd.prog 4 #[.agg (hC l), .int .i64 n, .int .i64 m] w fun e w' => e = .returned (.bool true) ∧ Below w.heap.size w w' := by
  have hbx := boxH l hl
  have hb1 := below_new w (.cells (hC l) 23)
  have hwk := works_yes (w.alloc (.cells (hC l) 23)) (hT.later hb1)
  have HW := Lib.hid hwk
  clear hwk hT
  rcases hbad with h | ⟨h, h2⟩
  · have h1 : decide (n < 0) = true := decide_eq_true h
    go_enter Tryd.func4, Tryd.ntmps4
    go_wp2_with (first
      | (with_reducible refine wpList_box rfl 23 (.tmp 0) rfl (.agg (hC l)) rfl (hbx _) ?_)
      | (go_at_call 9; refine HW.out.mono ?_; rintro e wn ⟨rfl, hbw⟩)
      | fail)
    go_ret
    exact ⟨rfl, hb1.trans (hbw.mono hb1.size)⟩
  · have h1 : decide (n < 0) = false := decide_eq_false (by omega)
    have h3 : decide (100 < n) = true := decide_eq_true h2
    go_enter Tryd.func4, Tryd.ntmps4
    go_wp2_with (first
      | (with_reducible refine wpList_box rfl 23 (.tmp 0) rfl (.agg (hC l)) rfl (hbx _) ?_)
      | (go_at_call 9; refine HW.out.mono ?_; rintro e wn ⟨rfl, hbw⟩)
      | fail)
    go_ret
    exact ⟨rfl, hb1.trans (hbw.mono hb1.size)⟩
set_option maxRecDepth 100000 in
set_option maxHeartbeats 8000000 in
theorem secretsGets_good (l : List UInt8) (n : Nat) (m : Int) (w : World) (hl : l.length = 32) (hT : Tabs w) (hn : n ≤ 100) :
    Calls Tryd.prog 4 #[.agg (hC l), .int .i64 (n : Int), .int .i64 m] w fun e w' => e = .returned (.bool true) ∧ Below w.heap.size w w' := by
  have hbx := boxH l hl
  have hr3 := Row.new w 23 (hC l)
  have hb1 := below_new w (.cells (hC l) 23)
  have d1 : decide ((n : Int) < 0) = false := decide_eq_false (by omega)
  have d2 : decide ((100 : Int) < (n : Int)) = false := decide_eq_false (by omega)
  have hnew := knew_any (w.alloc (.cells (hC l) 23))
  have kk := Row.new (w.alloc (.cells (hC l) 23)) 60 (kC 0 (fun _ => 0) (fun _ => []) true)
  have hb2 := hb1.alloc hb1.size (.cells (kC 0 (fun _ => 0) (fun _ => []) true) 60)
  have hr3 := hr3.alloc (.cells (kC 0 (fun _ => 0) (fun _ => []) true) 60)
  rw [World.size_alloc] at hnew kk
  obtain ⟨g3, hg3⟩ : ∃ g, g = w.heap.size := ⟨_, rfl⟩
  have HT := Lib.hid hT
  have HL := Lib.hid hl
  have HNEW := Lib.hid hnew
  clear hT hl hnew
  go_enter Tryd.func4, Tryd.ntmps4
  go_upto_region 4 with (first
    | (with_reducible refine wpList_box rfl 23 (.tmp 0) rfl (.agg (hC l)) rfl (hbx _) ?_)
    | (go_at_call 11; refine HNEW.out.mono ?_; rintro e w2 ⟨rfl, rfl⟩)
    | fail)
  clear d1 d2 HNEW hbx
  rw [← hg3] at hr3 kk ⊢
  have HG3 := Lib.hid hg3
  clear hg3 hb1
  have kp : SeedKeep ((w.alloc (.cells (hC l) 23)).alloc (.cells (kC 0 (fun _ => 0) (fun _ => []) true) 60)) (g3 + 1) l 0 := seedKeep_new kk
  generalize (w.alloc (.cells (hC l) 23)).alloc (.cells (kC 0 (fun _ => 0) (fun _ => []) true) 60) = w2 at *
  clear kk
  have hT0 := HT.out
  go_wp2
  go_loopw [8] (fun t wr => ∃ k : Nat, k ≤ n ∧ t = .int .i64 k ∧ Row wr g3 23 (hC l) ∧ SeedKeep wr (g3 + 1) l k ∧ Below w.heap.size w wr) (fun t _ => n - (intOf t).toNat)
  case atStart => exact ⟨0, by omega, rfl, hr3, kp, hb2⟩
  case round =>
    obtain ⟨k, hk, rfl, hr, kp, hb⟩ := hrel
    clear hr3 hb2 hT0
    have hld3 := loadH HL.out hr
    by_cases hlt : k < n
    · have hrs := refSecret_any l (k : Int) wr HL.out
      have hR : Sec.secR l (k : Int) = (Sec.D l (2147483647 - k), 0) := by
        unfold Sec.secR
        rw [if_pos (inB_yes (by omega) (by omega))]
        simp
      rw [hR] at hrs
      have hdl : (Sec.D l (2147483647 - k)).length = 32 := Sec.D_len _ _ HL.out
      have hput := fun W hT hk => seed_put (g3 + 1) k l W hT HL.out hk (by omega)
      generalize Sec.D l (2147483647 - k) = y at *
      have HRS := Lib.hid hrs
      have HDL := Lib.hid hdl
      have HPUT := Lib.hid hput
      have HKP := Lib.hid kp
      have hltI : (k : Int) < (n : Int) := by omega
      clear hR hrs hdl hput kp
      go_upto_region 8 with (first
        | (guard_target =~ wpList _ _ _ (_ :: _) _ _; refine wpList_load rfl 23 (.tmp 3) rfl (.pointer (some ⟨g3, 0, none⟩)) rfl hld3 ?_)
        | (go_at_call 12; refine HRS.out.mono ?_; rintro e w4 ⟨rfl, hb4⟩; obtain ⟨w5, hst, k9, hb5⟩ := newHx w4 y (Nat.le_of_eq HDL.out))
        | (with_reducible refine wpList_alloc rfl 23 rfl (allocH _) ?_)
        | (guard_target =~ wpList _ _ _ (_ :: _) _ _; refine wpList_store rfl 23 (.tmp 9) (.tmp 32) rfl (.pointer (some ⟨w4.heap.size, 0, none⟩)) (.agg (hC y)) rfl rfl hst ?_)
        | fail)
      have hb45 := hb4.trans (hb5.mono hb4.size)
      have hb6 := hb.trans (hb45.mono hb.size)
      have hr6 := hr.belowAll hb45
      have kp6 : SeedKeep w5 (g3 + 1) l k := HKP.out.of_row (HKP.out.row.belowAll hb45)
      have hpt := HPUT.out w5 (HT.out.later hb6) kp6
      obtain ⟨g9, hg9⟩ : ∃ g, g = w4.heap.size := ⟨_, rfl⟩
      rw [← hg9] at k9 ⊢
      have hld9 := loadH HDL.out k9
      have HPT := Lib.hid hpt
      clear hg9 hst hb4 hb5 hb45 hpt kp6 hb
      go_wp2_with (first
        | (guard_target =~ wpList _ _ _ (_ :: _) _ _; refine wpList_load rfl 23 (.tmp 9) rfl (.pointer (some ⟨g9, 0, none⟩)) rfl hld9 ?_)
        | (go_at_call 13; refine HPT.out.mono ?_; rintro e w7 ⟨rfl, kp7, hs7⟩)
        | (go_at_call 8; refine (num_any _ _).mono ?_; rintro e wn ⟨rfl, rfl⟩)
        | fail)
      go_roundw
      case rel => exact ⟨k + 1, by omega, by go_num, hr6.same hs7 ⟨hr6.lt, by omega⟩, kp7, below_same hb6 hs7 hb6.size (by have := HG3.out; omega)⟩
      case measure => simp [intOf]; omega
    · obtain rfl : k = n := by omega
      have hget := seed_get_any (g3 + 1) k m l wr (HT.out.later hb) HL.out kp (by omega)
      have hrs := fun W => refSecret_any l m W HL.out
      have hsl := Sec.secR_len l m HL.out
      have hso := Sec.secR_or l m HL.out
      have hgl : (Sec.getR l k m).1.length ≤ 32 := by unfold Sec.getR; split; (exact Nat.zero_le _); exact hsl
      have hgR : Sec.getR l k m = if (Sec.secR l m).2 = 0 ∧ (k : Int) ≤ m then ([], 5) else Sec.secR l m := rfl
      generalize Sec.getR l k m = gr at *
      generalize Sec.secR l m = sr at *
      obtain ⟨gx, ge⟩ := gr
      obtain ⟨sx, se⟩ := sr
      have HGET := Lib.hid hget
      have HRS := Lib.hid hrs
      have HSL := Lib.hid hsl
      have HSO := Lib.hid hso
      have HGL := Lib.hid hgl
      have HGR := Lib.hid hgR
      have hltI : ¬ (k : Int) < (k : Int) := by omega
      clear hget hrs hsl hso hgl hgR
      go_upto_region 11 with (first
        | (go_at_call 14; refine HGET.out.mono ?_; rintro e w4 ⟨rfl, hb4⟩; obtain ⟨w5, hst, k11, hb5⟩ := newHx w4 gx HGL.out)
        | (with_reducible refine wpList_alloc rfl 23 rfl (allocH _) ?_)
        | (guard_target =~ wpList _ _ _ (_ :: _) _ _; refine wpList_store rfl 23 (.tmp 11) (.tmp 44) rfl (.pointer (some ⟨w4.heap.size, 0, none⟩)) (.agg (hC gx)) rfl rfl hst ?_)
        | fail)
      have hb45 := hb4.trans (hb5.mono hb4.size)
      have hb6 := hb.trans (hb45.mono hb.size)
      have hr6 := hr.belowAll hb45
      have hld3 := loadH HL.out hr6
      obtain ⟨g11, hg11⟩ : ∃ g, g = w4.heap.size := ⟨_, rfl⟩
      rw [← hg11] at k11 ⊢
      clear hg11 hst hb4 hb5 hb45 hb HGET kp hr hltI
      go_upto_region 12 with (first
        | (guard_target =~ wpList _ _ _ (_ :: _) _ _; refine wpList_load rfl 23 (.tmp 3) rfl (.pointer (some ⟨g3, 0, none⟩)) rfl hld3 ?_)
        | (go_at_call 12; refine (HRS.out _).mono ?_; rintro e w6 ⟨rfl, hb7⟩; obtain ⟨w7, hst, k13, hb8⟩ := newHx w6 sx HSL.out)
        | (with_reducible refine wpList_alloc rfl 23 rfl (allocH _) ?_)
        | (guard_target =~ wpList _ _ _ (_ :: _) _ _; refine wpList_store rfl 23 (.tmp 13) (.tmp 50) rfl (.pointer (some ⟨w6.heap.size, 0, none⟩)) (.agg (hC sx)) rfl rfl hst ?_)
        | fail)
      have hb78 := hb7.trans (hb8.mono hb7.size)
      have hb9 := hb6.trans (hb78.mono hb6.size)
      have hne : g11 < w6.heap.size := Nat.lt_of_lt_of_le k11.lt hb7.size
      have hwk13 : w.heap.size ≤ w6.heap.size := Nat.le_trans hb6.size hb7.size
      have k11 := k11.belowAll hb78
      obtain ⟨g13, hg13⟩ : ∃ g, g = w6.heap.size := ⟨_, rfl⟩
      rw [← hg13] at k13 hne hwk13 ⊢
      clear hg13 hst hb7 hb8 hb78 hb6 hld3
      have hw := works_yes w7 (HT.out.later hb9)
      have hgr := HGR.out
      by_cases h0 : se = 0 ∧ (k : Int) ≤ m
      · obtain ⟨rfl, hkm⟩ := h0
        rw [if_pos ⟨rfl, hkm⟩] at hgr
        injection hgr with e1 e2
        subst e1 e2
        have dkm : decide ((k : Int) ≤ m) = true := decide_eq_true hkm
        obtain ⟨w8, hst8, k13, hg8⟩ := storeH (b := []) HSL.out (by decide) k13
        have k11 := k11.grown hg8 (fun e => by injection e with e; omega)
        have hb10 : Below w.heap.size w w8 := hb9.grown hg8 hb9.size (fun j e => by cases e; exact Nat.le_trans hwk13 (Nat.le_refl _))
        have hw := works_yes w8 (HT.out.later hb10)
        have l11 := loadHz (h := []) (by decide) k11
        have l13 := loadHz (h := []) (by decide) k13
        have HW := Lib.hid hw
        clear hw HGR k11 k13 hb9 hkm
        go_wp2_with (first
          | (guard_target =~ wpList _ _ _ (_ :: _) _ _; first
            | (refine wpList_buildC rfl 23 _ rfl #[] rfl (buildH0 _) ?_)
            | (refine wpList_store rfl 23 (.tmp 13) (.tmp 59) rfl (.pointer (some ⟨g13, 0, none⟩)) (.agg (hC [])) rfl rfl hst8 ?_)
            | (refine wpList_load rfl 23 (.tmp 11) rfl (.pointer (some ⟨g11, 0, none⟩)) rfl l11 ?_)
            | (refine wpList_load rfl 23 (.tmp 13) rfl (.pointer (some ⟨g13, 0, none⟩)) rfl l13 ?_)
            | (refine wpList_binop rfl .eql 23 23 (.tmp 60) (.tmp 61) rfl (.agg (hC [])) (.agg (hC [])) rfl rfl (eqgHH _ _ _) (eqlHH _) ?_))
          | (go_at_call 8; refine (num_any _ _).mono ?_; rintro e wn ⟨rfl, rfl⟩)
          | (go_at_call 9; refine HW.out.mono ?_; rintro e wn ⟨rfl, hbw⟩)
          | fail)
        go_ret
        exact ⟨rfl, hb10.trans (hbw.mono hb10.size)⟩
      · rw [if_neg h0] at hgr
        injection hgr with e1 e2
        subst e1 e2
        have l11 := loadHz HSL.out k11
        have l13 := loadHz HSL.out k13
        have HW := Lib.hid hw
        have heq := fun W => eqlAny gx HSO.out W
        have HEQ := Lib.hid heq
        have hee : (ge == ge) = true := beq_self_eq_true ge
        have hway : ((ge == 0) = false) ∨ ((ge == 0) = true ∧ decide ((k : Int) ≤ m) = false) := by
          by_cases hz : ge = 0
          · exact .inr ⟨by rw [hz]; rfl, decide_eq_false (fun h => h0 ⟨hz, h⟩)⟩
          · exact .inl (beq_eq_false_iff_ne.2 hz)
        clear hw HGR k11 k13 heq h0
        rcases hway with h1 | ⟨h1, h2⟩
        all_goals
          go_wp2_with (first
            | (guard_target =~ wpList _ _ _ (_ :: _) _ _; first
              | (refine wpList_load rfl 23 (.tmp 11) rfl (.pointer (some ⟨g11, 0, none⟩)) rfl l11 ?_)
              | (refine wpList_load rfl 23 (.tmp 13) rfl (.pointer (some ⟨g13, 0, none⟩)) rfl l13 ?_)
              | (refine wpList_binop rfl .eql 23 23 (.tmp 60) (.tmp 61) rfl (.agg (hC gx)) (.agg (hC gx)) rfl rfl (eqgHash _ _ _ _ _ _) (HEQ.out _) ?_))
            | (go_at_call 8; refine (num_any _ _).mono ?_; rintro e wn ⟨rfl, rfl⟩)
            | (go_at_call 9; refine HW.out.mono ?_; rintro e wn ⟨rfl, hbw⟩)
            | fail)
          go_ret
          exact ⟨rfl, hb9.trans (hbw.mono hb9.size)⟩
theorem secretsGets_walk (l : List UInt8) (hl : l.length = 32) (n : Int) (hn : (Lit.int .i64 n).wf = true) (m : Int) (hm : (Lit.int .i64 m).wf = true) (w : World) (hT : Tabs w) :
    Calls Tryd.prog 4 #[.agg (l.map byteV).toArray, .int .i64 n, .int .i64 m] w fun e w' => e = .returned (.bool true) ∧ Below w.heap.size w w' := by
  rw [← hC_full l hl]
  by_cases h : 0 ≤ n ∧ n ≤ 100
  · obtain ⟨k, rfl⟩ : ∃ k : Nat, n = k := ⟨n.toNat, by omega⟩
    exact secretsGets_good l k m w hl hT (by omega)
  · exact secretsGets_bad l n m w hl hT (by omega)
end Go.Proofs.YthabgfghogdkcaaDoor
