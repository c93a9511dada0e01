/- Msgs: the document's Right and the plain law. -/
import Derived.Test.YtcajhdmppfiaeaaGreatGl6
set_option linter.unusedVariables false
set_option linter.unusedSimpArgs false
namespace Go.Proofs.YtcajhdmppfiaeaaGreat
open Go.RowKit Ms
set_option maxHeartbeats 1000000 in
theorem nmd_eq (s : Said) (h1 : s.kind ≠ 1) (hk : isKind s.kind = true) : decide (zeroed (flds s.kind) s = Ms.blank s.kind) = decide (s = nmd s s.kind) := by
  have hK : s.kind = 2 ∨ s.kind = 3 ∨ s.kind = 4 ∨ s.kind = 5 ∨ s.kind = 6 ∨ s.kind = 7 ∨ s.kind = 8 ∨ s.kind = 9 ∨ s.kind = 10 ∨ s.kind = 11 ∨ s.kind = 12 ∨ s.kind = 13 ∨ s.kind = 14 := by
    unfold isKind at hk
    simp only [Bool.and_eq_true, decide_eq_true_eq] at hk
    omega
  rw [decide_eq_decide]
  obtain ⟨a1, a2, a3, a4, a5, a6, a7, a8, a9, a10, a11, a12, a13, a14, a15, a16, a17, a18, a19, a20, a21, a22, a23⟩ := s
  simp only at hK
  clear h1 hk
  rcases hK with rfl | rfl | rfl | rfl | rfl | rfl | rfl | rfl | rfl | rfl | rfl | rfl | rfl
  all_goals
    simp [flds, zeroed, zero1, Ms.blank, nmd, nmAt, nmL, Said.setN, Said.setH, Said.setR]
  all_goals (constructor <;> intro h <;> simp_all)
theorem right_doc (s : Said) : right s = (isKind s.kind && (decide (s = nmd s s.kind) && (within s.id && (within s.number && (within s.index && (within s.expiry && (amt s.amount && specialR s.kind s))))))) := by
  cases hk : isKind s.kind with
  | false => unfold right; rw [hk]; rfl
  | true =>
    by_cases h1 : s.kind = 1
    · unfold right
      rw [h1]
      obtain ⟨a1, a2, a3, a4, a5, a6, a7, a8, a9, a10, a11, a12, a13, a14, a15, a16, a17, a18, a19, a20, a21, a22, a23⟩ := s
      simp only at h1
      subst h1
      rw [Bool.eq_iff_iff]
      simp [flds, zeroed, zero1, Ms.blank, nmd, nmAt, nmL, cpT, Said.setN, Said.setH, Said.setR, special, specialR, rtB, isKind]
      constructor
      · rintro ⟨⟨⟨⟨p1, p2, p3, p4, p5, p6, p7, p8, p9, p10, p11, p12, p13⟩, ⟨⟨q1, q2⟩, q3⟩, q4⟩, q5⟩, ⟨r1, r2, r3⟩, r4⟩
        exact ⟨⟨p4, p5, p6, p7, p8, p9, p10, p11, p12, p13⟩, q1, q2, q3, q4, q5, ⟨p1, p2, p3, r1⟩, r2, r3, r4⟩
      · rintro ⟨⟨p4, p5, p6, p7, p8, p9, p10, p11, p12, p13⟩, q1, q2, q3, q4, q5, ⟨p1, p2, p3, r1⟩, r2, r3, r4⟩
        exact ⟨⟨⟨⟨p1, p2, p3, p4, p5, p6, p7, p8, p9, p10, p11, p12, p13⟩, ⟨⟨q1, q2⟩, q3⟩, q4⟩, q5⟩, ⟨r1, r2, r3⟩, r4⟩
    · have e := nmd_eq s h1 hk
      have e2 : special s = specialR s.kind s := by
        rw [special_eq]
        unfold specialK specialR
        rw [if_neg h1, if_neg h1]
      unfold right
      rw [e, e2, hk]
      simp only [Bool.true_and, Bool.and_assoc]
theorem nmd_wf (s : Said) (hs : s.wf) (hk : 1 ≤ s.kind ∧ s.kind ≤ 14) : (nmd s s.kind).wf := by
  have hK : s.kind = 1 ∨ s.kind = 2 ∨ s.kind = 3 ∨ s.kind = 4 ∨ s.kind = 5 ∨ s.kind = 6 ∨ s.kind = 7 ∨ s.kind = 8 ∨ s.kind = 9 ∨ s.kind = 10 ∨ s.kind = 11 ∨ s.kind = 12 ∨ s.kind = 13 ∨ s.kind = 14 := by omega
  have hb := blank_wf
  have hh := hs
  have hN : ∀ {t : Said} j v, t.wf → (t.setN j v).wf := fun j v h => Said.setN_wf h j v
  have hR : ∀ {t : Said} v, t.wf → (t.setR v).wf := fun v h => Said.setR_wf h v
  have hH : ∀ {t : Said} j, j < 9 → t.wf → (t.setH j (s.h j)).wf := fun j hj h => Said.setH_wf h j _ (hs j hj)
  rcases hK with h | h | h | h | h | h | h | h | h | h | h | h | h | h
  all_goals rw [h]
  · exact hH 4 (by decide) (hH 3 (by decide) (hN 6 _ (hN 5 _ (cpT_wf hs (hb _)))))
  · exact hH 4 (by decide) (hH 3 (by decide) (hH 5 (by decide) (hb _)))
  · exact hH 7 (by decide) (hN 9 _ (hH 6 (by decide) (hb _)))
  · exact hH 7 (by decide) (hb _)
  · exact hb _
  · exact hR _ (hN 10 _ (hH 6 (by decide) (hN 6 _ (hN 7 _ (hb _)))))
  · exact hH 8 (by decide) (hN 7 _ (hb _))
  · exact hN 11 _ (hN 7 _ (hb _))
  · exact hH 7 (by decide) (hN 8 _ (hb _))
  · exact hH 4 (by decide) (hH 8 (by decide) (hN 8 _ (hb _)))
  · exact hN 7 _ (hN 8 _ (hb _))
  · exact hb _
  · exact hH 7 (by decide) (hN 6 _ (hb _))
  · exact hN 11 _ (hb _)
theorem refRight_any (s : Said) (hs : s.wf) (hm : s.route.length ≤ 9223372036854775807) (w : World) : Calls Tryz.prog 11 #[.agg (saidC s)] w fun e w' => e = .returned (.bool (right s)) ∧ Later w w' := by
  rw [right_doc]
  have L1 := lssI s.kind 1
  have L2 := gtrI s.kind 14
  by_cases h1 : s.kind < 1
  · rw [show isKind s.kind = false by unfold isKind; rw [decide_eq_false (by omega)]; rfl]
    exact rright1 s hs (Lib.hid fun W => (decide_eq_true h1 ▸ L1 W)) w
  have G1 : Hid (∀ W, (binOp .lss 3 (.int .i64 s.kind) (.int .i64 1)).run Tryz.prog W = .ok (.bool false) W) := Lib.hid fun W => (decide_eq_false h1 ▸ L1 W)
  by_cases h2 : 14 < s.kind
  · rw [show isKind s.kind = false by unfold isKind; rw [decide_eq_false (p := s.kind ≤ 14) (by omega), Bool.and_false]]
    exact rright2 s hs G1 (Lib.hid fun W => (decide_eq_true h2 ▸ L2 W)) w
  have G2 : Hid (∀ W, (binOp .gtr 3 (.int .i64 s.kind) (.int .i64 14)).run Tryz.prog W = .ok (.bool false) W) := Lib.hid fun W => (decide_eq_false h2 ▸ L2 W)
  have hk : 1 ≤ s.kind ∧ s.kind ≤ 14 := by omega
  rw [show isKind s.kind = true by unfold isKind; rw [decide_eq_true hk.1, decide_eq_true hk.2]; rfl, Bool.true_and]
  have G3 := Lib.hid (fun W => named_any s hs hk W)
  have L4 := fun W => neqSaid hs (nmd_wf s hs hk) W
  cases e3 : decide (s = nmd s s.kind) with
  | false => rw [e3] at L4; exact rright3 s hs G1 G2 G3 (Lib.hid L4) w
  | true =>
    rw [e3] at L4
    have G4 := Lib.hid L4
    have M1 := fun W => refWithin_any s.id W
    have M2 := fun W => refWithin_any s.number W
    have M3 := fun W => refWithin_any s.index W
    have M4 := fun W => refWithin_any s.expiry W
    have M5 := fun W => refAmt_any s.amount W
    cases e4 : within s.id with
    | false => rw [e4] at M1; exact rright4 s hs G1 G2 G3 G4 (Lib.hid M1) w
    | true =>
      rw [e4] at M1
      cases e5 : within s.number with
      | false => rw [e5] at M2; exact rright5 s hs G1 G2 G3 G4 (Lib.hid M1) (Lib.hid M2) w
      | true =>
        rw [e5] at M2
        cases e6 : within s.index with
        | false => rw [e6] at M3; exact rright6 s hs G1 G2 G3 G4 (Lib.hid M1) (Lib.hid M2) (Lib.hid M3) w
        | true =>
          rw [e6] at M3
          cases e7 : within s.expiry with
          | false => rw [e7] at M4; exact rright7 s hs G1 G2 G3 G4 (Lib.hid M1) (Lib.hid M2) (Lib.hid M3) (Lib.hid M4) w
          | true =>
            rw [e7] at M4
            cases e8 : amt s.amount with
            | false => rw [e8] at M5; exact rright8 s hs G1 G2 G3 G4 (Lib.hid M1) (Lib.hid M2) (Lib.hid M3) (Lib.hid M4) (Lib.hid M5) w
            | true =>
              rw [e8] at M5
              exact rright9 s hs G1 G2 G3 G4 (Lib.hid M1) (Lib.hid M2) (Lib.hid M3) (Lib.hid M4) (Lib.hid M5) hk hm w
end Go.Proofs.YtcajhdmppfiaeaaGreat
