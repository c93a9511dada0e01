/- money: the document's Parse; Texts: the statement's walk. -/
import Derived.Test.YtcfhhljjknmniaaDoorMm18
set_option linter.unusedVariables false
set_option linter.unusedSimpArgs false
namespace Go.Proofs.YtcfhhljjknmniaaDoor
open Go.RowKit
theorem padR_stop {k : Int} {n : Nat} (h : ¬ 0 < k) : padR k.toNat n = some n := by rw [show k.toNat = 0 by omega]; rfl
theorem padR_over {k : Int} {n : Nat} (h : 0 < k) (hn : 1125899906842624 < n) : padR k.toNat n = none := by
  obtain ⟨m, hm⟩ : ∃ m, k.toNat = m + 1 := ⟨k.toNat - 1, by omega⟩
  rw [hm, padR, if_pos hn]
theorem padR_step {k : Int} {n : Nat} (h : 0 < k) (hn : ¬ 1125899906842624 < n) : padR k.toNat n = padR (k - 1).toNat (10 * n) := by
  obtain ⟨m, hm⟩ : ∃ m, k.toNat = m + 1 := ⟨k.toNat - 1, by omega⟩
  rw [hm, padR, if_neg hn, show (k - 1).toNat = m by omega]
theorem endR_some (s : List UInt8) (n : Nat) : endR s (some n) = if amts [(n : Int)] && decide (coinT n = s) then ((n : Int), 0) else (0, 152) := rfl
theorem u8_sub48 {c : UInt8} (h : 48 ≤ c.toNat) : IntKind.u8.wrap ((c.toNat : Int) - 48) = ((c.toNat - 48 : Nat) : Int) := by
  rw [IntKind.wrap_u8]
  have := c.toNat_lt
  omega
set_option maxRecDepth 100000 in
set_option maxHeartbeats 1000000 in
theorem refParse_any (s : List UInt8) (w : World) (hT : Tabs w) :
    Calls Tryd.prog 23 #[.string ⟨s.toArray⟩] w fun e w' => e = .returned (.tuple #[.int .i64 (refParseS s).1, .int .i64 (refParseS s).2]) ∧ Later w w' := by
  refine Calls.post fun Φ HΦ => ?_
  by_cases hlen : s.length ≤ 30
  case neg =>
    have hS : refParseS s = (0, 152) := by unfold refParseS; rw [if_neg hlen]
    rw [hS] at HΦ
    have hd : decide (30 < s.length) = true := decide_eq_true (by omega)
    have hd2 : decide ((30 : Int) < (s.length : Int)) = true := decide_eq_true (by omega)
    go_enter Tryd.func23, Tryd.ntmps23
    go_wp2_with fail
    exact HΦ.out _ _ ⟨rfl, Later.refl _⟩
  have hd : decide (30 < s.length) = false := decide_eq_false (by omega)
  have hd2 : decide ((30 : Int) < (s.length : Int)) = false := decide_eq_false (by omega)
  have hS : refParseS s = afterR s (scanR s 0 0 (-1)) := by unfold refParseS; rw [if_pos hlen]
  rw [hS] at HΦ
  have HT := Lib.hid hT
  clear hS hT
  go_enter Tryd.func23, Tryd.ntmps23
  go_wp2_with fail
  go_loopw [4, 5, 6] (fun t u v wr => ∃ (i n : Nat) (p : Int), i ≤ s.length ∧ v = .int .i64 (i : Int) ∧ t = .int .i64 (n : Int) ∧ u = .int .i64 p ∧ -1 ≤ p ∧ p < i ∧ n ≤ 11258999068426249 ∧ w = wr ∧ scanR s 0 0 (-1) = scanR (s.drop i) i n p) (fun _ _ v _ => s.length - (intOf v).toNat)
  case atStart => exact ⟨0, 0, -1, by omega, rfl, rfl, rfl, by omega, by omega, by omega, rfl, rfl⟩
  case round =>
    clear hd hd2
    obtain ⟨i, n, p, hi, rfl, rfl, rfl, hp1, hp2, hnb, rfl, hsc⟩ := hrel
    by_cases hlt : i < s.length
    · have hd : decide ((i : Int) < (s.length : Int)) = true := decide_eq_true (by omega)
      have hd' : decide (i < s.length) = true := decide_eq_true hlt
      obtain ⟨c, hc⟩ : ∃ c, s[i] = c := ⟨_, rfl⟩
      have hl : ∀ h, (⟨s.toArray⟩ : ByteArray)[i]'h = c := fun h => (ba_at s i hlt h).trans hc
      rw [List.drop_eq_getElem_cons hlt, hc] at hsc
      clear hc
      by_cases h46 : c = 46 ∧ p < 0
      · rw [scanR_point h46.1 h46.2] at hsc
        have e1 : (((c.toNat : Nat) : Int) == 46) = true := by rw [h46.1]; rfl
        have e2 : decide (p < 0) = true := decide_eq_true h46.2
        have HSC := Lib.hid hsc
        clear hsc h46
        go_wp2_with fail
        go_roundw
        case rel => exact ⟨i + 1, n, i, by omega, by go_num, rfl, rfl, by omega, by omega, hnb, (by first | rfl | trivial), HSC.out⟩
        case measure => simp [intOf]; omega
      · by_cases hbad : (c.toNat < 48 ∨ 57 < c.toNat) ∨ 1125899906842624 < n
        · rw [scanR_none h46 hbad] at hsc
          rw [hsc] at HΦ
          clear hsc
          by_cases h48 : c.toNat < 48
          · have v48 : decide (((c.toNat : Nat) : Int) < 48) = true := decide_eq_true (by omega)
            by_cases hc46 : c = 46
            · have v46 : (((c.toNat : Nat) : Int) == 46) = true := by rw [hc46]; rfl
              have vp : decide (p < 0) = false := decide_eq_false (fun e => h46 ⟨hc46, e⟩)
              clear h46 hbad h48 hc46
              go_wp2_with fail
              exact HΦ.out _ _ ⟨rfl, Later.refl _⟩
            · have v46 : (((c.toNat : Nat) : Int) == 46) = false := beq_eq_false_iff_ne.2 (fun e => toNat_ne hc46 (by simpa using Int.ofNat.inj e))
              clear h46 hbad h48 hc46
              go_wp2_with fail
              exact HΦ.out _ _ ⟨rfl, Later.refl _⟩
          · have v48 : decide (((c.toNat : Nat) : Int) < 48) = false := decide_eq_false (by omega)
            have v46 : (((c.toNat : Nat) : Int) == 46) = false := beq_eq_false_iff_ne.2 (by omega)
            by_cases h57 : 57 < c.toNat
            · have v57 : decide (57 < ((c.toNat : Nat) : Int)) = true := decide_eq_true (by omega)
              clear h46 hbad h48 h57
              go_wp2_with fail
              exact HΦ.out _ _ ⟨rfl, Later.refl _⟩
            · have v57 : decide (57 < ((c.toNat : Nat) : Int)) = false := decide_eq_false (by omega)
              have vn : decide (1125899906842624 < (n : Int)) = true := decide_eq_true (by omega)
              clear h46 hbad h48 h57
              go_wp2_with fail
              exact HΦ.out _ _ ⟨rfl, Later.refl _⟩
        · have v48 : decide (((c.toNat : Nat) : Int) < 48) = false := decide_eq_false (by omega)
          have v46 : (((c.toNat : Nat) : Int) == 46) = false := beq_eq_false_iff_ne.2 (by omega)
          have v57 : decide (57 < ((c.toNat : Nat) : Int)) = false := decide_eq_false (by omega)
          have vn : decide (1125899906842624 < (n : Int)) = false := decide_eq_false (by omega)
          rw [scanR_dig (fun e => by rw [e] at v46; cases v46) (by omega) (by omega) (by omega)] at hsc
          have hsub := u8_sub48 (c := c) (by omega)
          obtain ⟨d, hdd⟩ : ∃ d, c.toNat - 48 = d := ⟨_, rfl⟩
          rw [hdd] at hsub hsc
          have hd10 : d ≤ 9 := by omega
          have hn10 : n ≤ 1125899906842624 := by omega
          have HSC := Lib.hid hsc
          clear hsc h46 hbad hdd
          go_wp2_with fail
          go_roundw
          case rel => exact ⟨i + 1, 10 * n + d, p, by omega, by go_num, by go_num, rfl, by omega, by omega, by omega, (by first | rfl | trivial), HSC.out⟩
          case measure => simp [intOf]; omega
    · obtain rfl : i = s.length := by omega
      have hd : decide ((s.length : Int) < (s.length : Int)) = false := decide_eq_false (by omega)
      have hd' : decide (s.length < s.length) = false := decide_eq_false (by omega)
      rw [List.drop_length] at hsc
      rw [hsc] at HΦ
      have hA : afterR s (scanR [] s.length n p) = endR s (padR (moreR s.length p).toNat n) := rfl
      rw [hA] at HΦ
      clear hsc hA hi hlt
      by_cases hp0 : 0 ≤ p
      · have hdp : decide (0 ≤ p) = true := decide_eq_true hp0
        have hm : moreR s.length p = 8 - ((s.length : Int) - p - 1) := by unfold moreR; rw [if_pos hp0]
        rw [hm] at HΦ
        obtain ⟨k0, hk0⟩ : ∃ k0 : Int, 8 - ((s.length : Int) - p - 1) = k0 := ⟨_, rfl⟩
        rw [hk0] at HΦ
        have hkb : -30 ≤ k0 ∧ k0 ≤ 8 := by omega
        clear hm
        go_wp2_with fail
        go_loopw [4, 7] (fun t u wr => ∃ (k : Int) (m : Nat), u = .int .i64 k ∧ t = .int .i64 (m : Int) ∧ m ≤ 11258999068426249 ∧ k ≤ 8 ∧ -30 ≤ k ∧ w = wr ∧ padR k0.toNat n = padR k.toNat m) (fun _ u _ => (intOf u).toNat)
        case atStart => exact ⟨k0, n, by first | rfl | rw [hk0], rfl, hnb, hkb.2, hkb.1, rfl, rfl⟩
        case round =>
          obtain ⟨k, m, rfl, rfl, hmb, hk8, hk30, rfl, hpad⟩ := hrel
          by_cases hk : 0 < k
          · have vk : decide (0 < k) = true := decide_eq_true hk
            by_cases hmx : 1125899906842624 < m
            · have vm : decide (1125899906842624 < (m : Int)) = true := decide_eq_true (by omega)
              rw [padR_over hk hmx] at hpad
              rw [hpad] at HΦ
              clear hpad
              go_wp2_with fail
              exact HΦ.out _ _ ⟨rfl, Later.refl _⟩
            · have vm : decide (1125899906842624 < (m : Int)) = false := decide_eq_false (by omega)
              rw [padR_step hk hmx] at hpad
              have HP := Lib.hid hpad
              clear hpad
              go_wp2_with fail
              go_roundw
              case rel => exact ⟨k - 1, 10 * m, by go_num, by go_num, by omega, by omega, by omega, (by first | rfl | trivial), HP.out⟩
              case measure => simp [intOf]; omega
          · have vk : decide (0 < k) = false := decide_eq_false hk
            rw [padR_stop hk] at hpad
            rw [hpad, endR_some] at HΦ
            have htx := refText_any (m : Int) w HT.out
            clear hpad hk8 hk30 hmb
            cases hav : amts [(m : Int)] with
            | false =>
              rw [show textS (m : Int) = ([], 2) by unfold textS; rw [hav]; rfl] at htx
              rw [hav, Bool.false_and] at HΦ
              clear hav
              go_wp2_with (first
                | (go_at_call 21; refine htx.mono ?_; clear htx; rintro e w3 ⟨rfl, hL3⟩)
                | fail)
              exact HΦ.out _ _ ⟨rfl, hL3⟩
            | true =>
              rw [show textS (m : Int) = (coinT m, 0) by unfold textS; rw [hav]; rfl] at htx
              rw [hav, Bool.true_and] at HΦ
              generalize coinT m = q at *
              clear hav
              by_cases hts : q = s
              · subst hts
                rw [decide_eq_true rfl] at HΦ
                go_wp2_with (first
                  | (go_at_call 21; refine htx.mono ?_; clear htx; rintro e w3 ⟨rfl, hL3⟩)
                  | fail)
                exact HΦ.out _ _ ⟨rfl, hL3⟩
              · rw [decide_eq_false hts] at HΦ
                have x1 : decide (q = s) = false := decide_eq_false hts
                have x2 : (q == s) = false := beq_eq_false_iff_ne.2 hts
                have x3 : (q != s) = true := bne_iff_ne.2 hts
                go_wp2_with (first
                  | (go_at_call 21; refine htx.mono ?_; clear htx; rintro e w3 ⟨rfl, hL3⟩)
                  | fail)
                exact HΦ.out _ _ ⟨rfl, hL3⟩
      · have hdp : decide (0 ≤ p) = false := decide_eq_false hp0
        have hm : moreR s.length p = 8 := by unfold moreR; rw [if_neg hp0]
        rw [hm] at HΦ
        obtain ⟨k0, hk0⟩ : ∃ k0 : Int, 8 = k0 := ⟨_, rfl⟩
        rw [hk0] at HΦ
        have hkb : -30 ≤ k0 ∧ k0 ≤ 8 := by omega
        clear hm
        go_wp2_with fail
        go_loopw [4, 7] (fun t u wr => ∃ (k : Int) (m : Nat), u = .int .i64 k ∧ t = .int .i64 (m : Int) ∧ m ≤ 11258999068426249 ∧ k ≤ 8 ∧ -30 ≤ k ∧ w = wr ∧ padR k0.toNat n = padR k.toNat m) (fun _ u _ => (intOf u).toNat)
        case atStart => exact ⟨k0, n, by first | rfl | rw [hk0], rfl, hnb, hkb.2, hkb.1, rfl, rfl⟩
        case round =>
          obtain ⟨k, m, rfl, rfl, hmb, hk8, hk30, rfl, hpad⟩ := hrel
          by_cases hk : 0 < k
          · have vk : decide (0 < k) = true := decide_eq_true hk
            by_cases hmx : 1125899906842624 < m
            · have vm : decide (1125899906842624 < (m : Int)) = true := decide_eq_true (by omega)
              rw [padR_over hk hmx] at hpad
              rw [hpad] at HΦ
              clear hpad
              go_wp2_with fail
              exact HΦ.out _ _ ⟨rfl, Later.refl _⟩
            · have vm : decide (1125899906842624 < (m : Int)) = false := decide_eq_false (by omega)
              rw [padR_step hk hmx] at hpad
              have HP := Lib.hid hpad
              clear hpad
              go_wp2_with fail
              go_roundw
              case rel => exact ⟨k - 1, 10 * m, by go_num, by go_num, by omega, by omega, by omega, (by first | rfl | trivial), HP.out⟩
              case measure => simp [intOf]; omega
          · have vk : decide (0 < k) = false := decide_eq_false hk
            rw [padR_stop hk] at hpad
            rw [hpad, endR_some] at HΦ
            have htx := refText_any (m : Int) w HT.out
            clear hpad hk8 hk30 hmb
            cases hav : amts [(m : Int)] with
            | false =>
              rw [show textS (m : Int) = ([], 2) by unfold textS; rw [hav]; rfl] at htx
              rw [hav, Bool.false_and] at HΦ
              clear hav
              go_wp2_with (first
                | (go_at_call 21; refine htx.mono ?_; clear htx; rintro e w3 ⟨rfl, hL3⟩)
                | fail)
              exact HΦ.out _ _ ⟨rfl, hL3⟩
            | true =>
              rw [show textS (m : Int) = (coinT m, 0) by unfold textS; rw [hav]; rfl] at htx
              rw [hav, Bool.true_and] at HΦ
              generalize coinT m = q at *
              clear hav
              by_cases hts : q = s
              · subst hts
                rw [decide_eq_true rfl] at HΦ
                go_wp2_with (first
                  | (go_at_call 21; refine htx.mono ?_; clear htx; rintro e w3 ⟨rfl, hL3⟩)
                  | fail)
                exact HΦ.out _ _ ⟨rfl, hL3⟩
              · rw [decide_eq_false hts] at HΦ
                have x1 : decide (q = s) = false := decide_eq_false hts
                have x2 : (q == s) = false := beq_eq_false_iff_ne.2 hts
                have x3 : (q != s) = true := bne_iff_ne.2 hts
                go_wp2_with (first
                  | (go_at_call 21; refine htx.mono ?_; clear htx; rintro e w3 ⟨rfl, hL3⟩)
                  | fail)
                exact HΦ.out _ _ ⟨rfl, hL3⟩
set_option maxRecDepth 100000 in
theorem moneyTexts_walk (a : Int) (wa : (Lit.int .i64 a).wf = true) (sb : ByteArray) (wb : sb.size ≤ maxLen) (w : World) (hT : Tabs w) :
    Calls Tryd.prog 5 #[.int .i64 a, .string sb] w fun e w' => e = .returned (.bool true) ∧ Below w.heap.size w w' := by
  refine Calls.post fun Φ HΦ => ?_
  obtain ⟨s, rfl⟩ : ∃ s : List UInt8, sb = ⟨s.toArray⟩ := ⟨sb.data.toList, by rw [Array.toArray_toList]⟩
  have hwk := fun W (h : Later w W) => works_yes W (hT.later h)
  have h1 := text_any a w hT
  have h2 := fun W (h : Later w W) => refText_any a W (hT.later h)
  by_cases hlen : s.length ≤ 60
  case neg =>
    have hd : decide ((60 : Int) < (s.length : Int)) = true := decide_eq_true (by omega)
    have hd2 : decide (60 < s.length) = true := decide_eq_true (by omega)
    clear wb wa hT h1 h2
    go_enter Tryd.func5, Tryd.ntmps5
    go_wp2_with (first
      | (go_at_call 9; refine (hwk _ (Later.refl _)).mono ?_; clear hwk; rintro e w4 ⟨rfl, hL4⟩)
      | fail)
    exact HΦ.out _ _ ⟨rfl, hL4⟩
  have hd : decide ((60 : Int) < (s.length : Int)) = false := decide_eq_false (by omega)
  have hd2 : decide (60 < s.length) = false := decide_eq_false (by omega)
  have h3 := fun W (h : Later w W) => parse_any s W (hT.later h) (by omega)
  have h4 := fun W (h : Later w W) => refParse_any s W (hT.later h)
  simp only [← parse_same] at h4
  generalize parseS s = r2 at *
  generalize textS a = r1 at *
  obtain ⟨x1, y1⟩ := r1
  obtain ⟨x2, y2⟩ := r2
  clear hT wa wb
  go_enter Tryd.func5, Tryd.ntmps5
  go_wp2_with (first
    | (go_at_call 20; refine h1.mono ?_; clear h1; rintro e w1 ⟨rfl, hL1⟩)
    | (go_at_call 21; refine (h2 _ hL1).mono ?_; clear h2; rintro e w2 ⟨rfl, hL2⟩; have hLa := Later.step hL1 hL2; clear hL1 hL2)
    | (go_at_call 22; refine (h3 _ hLa).mono ?_; clear h3; rintro e w3 ⟨rfl, hL3⟩; have hLb := hLa.step hL3; clear hLa hL3)
    | (go_at_call 23; refine (h4 _ hLb).mono ?_; clear h4; rintro e w4 ⟨rfl, hL4⟩; have hLc := hLb.step hL4; clear hLb hL4)
    | (go_at_call 15; refine (num5_any _ _).mono ?_; rintro e wb ⟨rfl, rfl⟩)
    | (go_at_call 9; refine (hwk _ hLc).mono ?_; clear hwk; rintro e w5 ⟨rfl, hL5⟩)
    | fail)
  exact HΦ.out _ _ ⟨rfl, hLc.step hL5⟩
end Go.Proofs.YtcfhhljjknmniaaDoor
