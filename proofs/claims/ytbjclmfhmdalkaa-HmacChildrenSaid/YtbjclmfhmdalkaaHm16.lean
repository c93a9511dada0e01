/- HmacChildren: the walk. -/
import Derived.Test.YtbjclmfhmdalkaaOpenC
set_option linter.unusedVariables false
set_option linter.unusedSimpArgs false
namespace Go.Proofs.Ytbjclmfhmdalkaa
open Go.RowKit
theorem Steps.val {w : World} {B : Option Addr} {ss : List (List UInt8 × Nat)} (h : Steps w B ss) {k : Nat} (hk : k < ss.length) : ∃ b o, B = some ⟨b, o, none⟩ ∧ w.cell? ⟨b, o + k * 2, none⟩ = some (.string ⟨ss[k].1.toArray⟩) := by
  obtain ⟨b, o, e, h1, _⟩ := h.at_ hk
  exact ⟨b, o, e, h1⟩
set_option maxRecDepth 100000 in
set_option maxHeartbeats 1000000 in
theorem hmacChildren_any (A : Option Addr) (n ca : Nat) (key : List UInt8) (B : Option Addr) (m cb : Nat) (ss : List (List UInt8 × Nat)) (w : World) (hn : key.length = n) (hc : n ≤ ca) (hcm : ca ≤ 9223372036854775807) (hr : Rd w A key)
    (hss : ss.length = m) (hmb : m ≤ cb) (hcb : cb ≤ 9223372036854775807) (hs1 : ∀ s ∈ ss, s.1.length ≤ 9223372036854775807 ∧ s.2 < 18446744073709551616) (hst : Steps w B ss) :
    Calls Try.prog 5 #[.slice A n ca, .slice B m cb] w fun e w' => e = .returned (.bool true) ∧ Below w.heap.size w w' := by
  subst hss
  have HN := Lib.hid hn
  clear hn
  by_cases h1 : 200 < n
  · have hd1 : decide (200 < n) = true := by simpa using h1
    have hd1' : decide ((200 : Int) < (n : Int)) = true := by simp; omega
    go_enter Try.func5, Try.ntmps5
    go_wp2_with (first | (go_at_call 10; refine (works2_yes _).mono ?_; rintro e w1 ⟨rfl, hb1⟩) | fail)
    go_ret
    exact ⟨rfl, hb1⟩
  · have hd1 : decide (200 < n) = false := by simpa using h1
    have hd1' : decide ((200 : Int) < (n : Int)) = false := by simp; omega
    by_cases h2 : 8 < ss.length
    · have hd2 : decide (8 < ss.length) = true := by simpa using h2
      have hd2' : decide ((8 : Int) < (ss.length : Int)) = true := by simp; omega
      go_enter Try.func5, Try.ntmps5
      go_wp2_with (first | (go_at_call 10; refine (works2_yes _).mono ?_; rintro e w1 ⟨rfl, hb1⟩) | fail)
      go_ret
      exact ⟨rfl, hb1⟩
    · have hd2 : decide (8 < ss.length) = false := by simpa using h2
      have hd2' : decide ((8 : Int) < (ss.length : Int)) = false := by simp; omega
      go_enter Try.func5, Try.ntmps5
      go_wp2_with fail
      go_loopw [5] (fun t wr => ∃ k : Nat, k ≤ ss.length ∧ t = .int .i64 (k : Int) ∧ (∀ i (h : i < ss.length), i < k → ss[i].1.length ≤ 100) ∧ w = wr) (fun t _ => ss.length - (intOf t).toNat)
      case atStart => exact ⟨0, by omega, rfl, fun i _ h => by omega, rfl⟩
      case round =>
        obtain ⟨k, hk, rfl, hall, rfl⟩ := hrel
        have HALL := Lib.hid hall
        clear hall
        by_cases hlt : k < ss.length
        · obtain ⟨b, o, rfl, hc1⟩ := hst.val hlt
          obtain ⟨hl1, _⟩ := hs1 _ (List.getElem_mem hlt)
          obtain ⟨nm, hnm⟩ : ∃ q, ss[k].1 = q := ⟨_, rfl⟩
          rw [hnm] at hc1 hl1
          have HNM := Lib.hid hnm
          clear hnm
          by_cases h3 : 100 < nm.length
          · have hd3 : decide (100 < nm.length) = true := by simpa using h3
            have hd3' : decide ((100 : Int) < (nm.length : Int)) = true := by simp; omega
            go_wp2_with (first | (go_at_call 10; refine (works2_yes _).mono ?_; rintro e w1 ⟨rfl, hb1⟩) | fail)
            go_ret
            exact ⟨rfl, hb1⟩
          · have hd3 : decide (100 < nm.length) = false := by simpa using h3
            have hd3' : decide ((100 : Int) < (nm.length : Int)) = false := by simp; omega
            go_wp2_with fail
            go_roundw
            case rel => exact ⟨k + 1, by omega, by go_num, fun i hi h4 => by
              by_cases e : i = k
              · subst e; rw [HNM.out]; omega
              · exact HALL.out i hi (by omega), by first | rfl | trivial⟩
            case measure => simp [intOf]; omega
        · obtain rfl : k = ss.length := by omega
          have hsm : ∀ s ∈ ss, s.1.length ≤ 100 ∧ s.2 < 18446744073709551616 := fun s hs => by
            obtain ⟨i, hi, rfl⟩ := List.getElem_of_mem hs
            exact ⟨HALL.out i hi hi, (hs1 _ (List.getElem_mem hi)).2⟩
          have hcall := child_any A n ca key B ss.length cb ss w HN.out hc hcm (by omega) hr rfl (by omega) (fun s hs => ⟨by have := (hsm s hs).1; omega, (hsm s hs).2⟩) hst
          have HREF : Hid (∀ W, Later w W → Calls Try.prog 17 #[.slice A n ca, .slice B ss.length cb] W fun e w' => e = .returned (.agg (hC (Hm.child key ss))) ∧ Below W.heap.size W w') := Lib.hid (fun W hL => refChild_any A n ca key B ss.length cb ss W HN.out hc hcm (by omega) (hr.later hL) rfl (by omega) (fun s hs => ⟨by have := (hsm s hs).1; omega, (hsm s hs).2⟩) (hst.below hL))
          have hchl := Hm.child_len key ss
          generalize Hm.child key ss = C at *
          have HCL := Lib.hid hchl
          clear hchl hsm hs1 hst hr
          go_wp2_with (first
            | (go_at_call 16; refine hcall.mono ?_; clear hcall; rintro e w1 ⟨rfl, hb1⟩)
            | (go_at_call 17; refine (HREF.out _ hb1).mono ?_; clear HREF; rintro e w2 ⟨rfl, hb2⟩)
            | (refine wpList_binop rfl .eql 25 _ (.tmp 31) (.tmp 34) rfl (.agg (hC C)) (.agg (hC C)) rfl rfl (eqgHash _ _ _ _ _ _) (eqlSame C HCL.out _) ?_)
            | (go_at_call 10; refine (works2_yes _).mono ?_; rintro e w3 ⟨rfl, hb3⟩)
            | fail)
          go_ret
          exact ⟨rfl, Later.step (Later.step hb1 hb2) hb3⟩
theorem hmacChildren_walk (A : Option Addr) (n c : Nat) (key : List UInt8) (B : Option Addr) (m cb : Nat) (ss : List (List UInt8 × Nat)) (w : World) (hi : InBytes w A n c key) (hj : InSteps w B m cb ss) :
    Calls Try.prog 5 #[.slice A n c, .slice B m cb] w fun e w' => e = .returned (.bool true) ∧ Below w.heap.size w w' :=
  hmacChildren_any A n c key B m cb ss w hi.len hi.cap (by have := hi.most; unfold maxLen at this; omega) hi.rd hj.len hj.cap (by have := hj.most; unfold maxLen at this; omega) (fun s hs => by have := hj.small s hs; unfold maxLen at this; omega) hj.rd
end Go.Proofs.Ytbjclmfhmdalkaa
