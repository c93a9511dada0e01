/- money: Sums: the statement's walk. -/
import Derived.Test.YtcfhhljjknmniaaDoorMm13
set_option linter.unusedVariables false
set_option linter.unusedSimpArgs false
namespace Go.Proofs.YtcfhhljjknmniaaDoor
open Go.RowKit Go.ChangeShapes Go.WideShapes Go.ChangeAt
/-- Numbers that came in. -/
structure InNums (w : World) (A : Option Addr) (n c : Nat) (l : List Int) : Prop where
  len : l.length = n
  cap : n ≤ c
  most : c ≤ maxLen
  rd : RdV w A (l.map numV)
theorem in_numsA {H : Type} {enc : TypeId × Value → H} {P : Program} {w : World} {held : Bool} {t e : TypeId} {fuel : Nat} {A : Option Addr} {n c : Nat} {x : DataW H × List MemPlace} (ht : P.underlying t = some (.slice e)) (he : P.underlying e = some (.int .i64)) (hc : P.cellsOf e = 1)
    (h : DataW.trod enc P w 0 (fun _ => true) held fuel t [.slice A n c] = some x) : ∃ l, InNums w A n c l := by
  obtain ⟨l, A', c', e1, h1, h2, h3⟩ := in_nums ht he hc h
  injection e1 with e2 e3 e4
  subst e2 e3 e4
  exact ⟨l, rfl, h1, h2, h3⟩
/-- What the loop over the numbers has found: 2 as soon as one is no amount. -/
def seen (zs : List Int) (k : Nat) : Int := if (zs.take k).any (bad maxAmt) then 2 else 0
theorem seen_zero (zs : List Int) : seen zs 0 = 0 := rfl
theorem seen_bad {zs : List Int} {k : Nat} (hk : k < zs.length) (h : bad maxAmt zs[k] = true) : seen zs (k + 1) = 2 := by
  unfold seen
  rw [take_any hk, h, Bool.or_true]
  rfl
theorem seen_ok {zs : List Int} {k : Nat} (hk : k < zs.length) (h : bad maxAmt zs[k] = false) : seen zs (k + 1) = seen zs k := by
  unfold seen
  rw [take_any hk, h, Bool.or_false]
theorem seen_all {zs : List Int} {n : Nat} (hn : zs.length = n) : (if amts zs = true then (0 : Int) else 2) = seen zs n := by
  unfold seen amts
  rw [List.take_of_length_le (by omega)]
  cases zs.any (bad maxAmt) <;> rfl
set_option maxRecDepth 100000 in
set_option maxHeartbeats 2000000 in
theorem moneySums_walk (a : Int) (wa : (Lit.int .i64 a).wf = true) (A : Option Addr) (n c : Nat) (zs : List Int) (w : World) (hin : InNums w A n c zs) (hT : Tabs w) :
    Calls Tryd.prog 3 #[.int .i64 a, .slice A n c] w fun e w' => e = .returned (.bool true) ∧ Below w.heap.size w w' := by
  refine Calls.post fun Φ HΦ => ?_
  obtain ⟨hn, hnc, hcm, hr⟩ := hin
  have hwk := fun W (h : Later w W) => works_yes W (hT.later h)
  unfold maxLen at hcm
  clear hT wa
  by_cases hlen : n ≤ 40
  case neg =>
    have hd : decide ((40 : Int) < (n : Int)) = true := decide_eq_true (by omega)
    have hd2 : decide (40 < n) = true := decide_eq_true (by omega)
    clear hr
    go_enter Tryd.func3, Tryd.ntmps3
    go_wp2_with (first
      | (go_at_call 9; refine (hwk _ (Later.refl _)).mono ?_; clear hwk; rintro e w4 ⟨rfl, hL4⟩)
      | fail)
    exact HΦ.out _ _ ⟨rfl, hL4⟩
  have hd : decide ((40 : Int) < (n : Int)) = false := decide_eq_false (by omega)
  have hd2 : decide (40 < n) = false := decide_eq_false (by omega)
  have hL0 := (Later.refl w).alloc (.cells #[] 2)
  have hr0 := hr.later hL0
  have ho0 := own0Z w w.heap.size (Nat.le_refl _)
  have hs0 := hL0.size
  have hl2 : (zs ++ [77]).length = n + 1 := by rw [List.length_append, hn]; rfl
  go_enter Tryd.func3, Tryd.ntmps3
  go_upto_region 4 with (first
    | (refine wpList_buildSl rfl 22 0 _ rfl #[] rfl (build0Z _) ?_)
    | (refine wpList_append_ints rfl (.tmp 20) (.tmp 21) rfl w.heap.size _ [] rfl ho0 A n c zs rfl hn hr0 (by simp; omega) hs0 fun v1 w1 ho1 hg1 hb1 => ?_; rw [List.nil_append] at ho1; obtain ⟨A1, c1, hv1, hc1a, hc1b, hrd1⟩ := ho1.slice; rw [hn] at hv1 hc1a; subst hv1; have hL1 : Later w w1 := hL0.grown hg1 hs0 (fun j e => by first | (cases e; exact Nat.le_refl _)); have hs1 := hL1.size; have ho1' := ho1.later ((Later.refl w1).alloc (.cells #[.int .i64 77] 2)); have hL1' := hL1.alloc (.cells #[.int .i64 77] 2); have hs1' := hL1'.size; clear ho0 hr0 hL0 hg1 hb1 hrd1)
    | (refine wpList_append_ints rfl (.tmp 22) (.tmp 23) rfl w.heap.size _ zs rfl ho1' (some ⟨w1.heap.size, 0, none⟩) 1 1 [77] rfl rfl (rd1Z 77 w1) (by omega) hs1' fun v2 w2 ho2 hg2 hb2 => ?_; obtain ⟨A2, c2, hv2, hc2a, hc2b, hrd2⟩ := ho2.slice; rw [hl2] at hv2 hc2a; subst hv2; have hL2 : Later w w2 := hL1'.grown hg2 hs1' (fun j e => (ho1'.at_ j e).1); clear ho1 ho1' hL1 hL1' hg2 hb2 ho2)
    | (refine wpList_buildSl rfl 22 1 _ rfl #[(0, .int .i64 77)] rfl (build1Z _ _) ?_)
    | fail)
  obtain ⟨b, o, rfl, hcell⟩ := hrd2 (by simp)
  have h77 : w2.cell? ⟨b, o + n, none⟩ = some (numV 77) := by
    have := hcell n (by rw [List.length_map, hl2]; omega)
    rw [this, List.getElem_map, List.getElem_append_right (by omega)]
    simp [hn]
  have hrz : RdV w2 (some ⟨b, o, none⟩) (zs.map numV) := fun hne => ⟨b, o, rfl, fun i hi => by
    have hi' : i < zs.length := by rwa [List.length_map] at hi
    have := hcell i (by rw [List.length_map, hl2]; omega)
    rw [this, List.getElem_map, List.getElem_map, List.getElem_append_left hi']⟩
  have ha1 := fun W (h : Later w2 W) => add_any (some ⟨b, o, none⟩) n c2 zs W hn (by omega) (hrz.later h)
  have ha2 := fun W (h : Later w2 W) => less_any a (some ⟨b, o, none⟩) n c2 zs W hn (by omega) (hrz.later h)
  have ha3 := fun W (h : Later w W) => refAdd_any A n c zs W hn (by omega) (hr.later h)
  have ha4 := fun W (h : Later w W) => refLess_any a A n c zs W hn (by omega) (hr.later h)
  generalize addS zs = r1 at *
  generalize lessS a zs = r2 at *
  obtain ⟨x1, y1⟩ := r1
  obtain ⟨x2, y2⟩ := r2
  have H2a := Lib.hid hc2a
  clear hcell hrd2 hs0 hs1 hs1' hc1a hc1b hd hd2
  go_upto_region 8 with (first
    | (go_at_call 10; refine (ha1 _ (Later.refl _)).mono ?_; clear ha1; rintro e w3 ⟨rfl, hL3⟩)
    | (go_at_call 11; refine (ha2 _ hL3).mono ?_; clear ha2; rintro e w4 ⟨rfl, hL4⟩; have hL5 := Later.step hL3 hL4; have hL6 := hL2.step hL5; clear hL3 hL4)
    | (go_at_call 12; refine (ha3 _ hL6).mono ?_; clear ha3; rintro e w5 ⟨rfl, rfl⟩)
    | (go_at_call 13; refine (ha4 _ hL6).mono ?_; clear ha4; rintro e w5 ⟨rfl, rfl⟩)
    | fail)
  go_wp2_with fail
  go_loopw [14, 15] (fun t u wr => ∃ k : Nat, k ≤ n ∧ u = .int .i64 k ∧ w4 = wr ∧ t = .int .i64 (seen zs k)) (fun _ u _ => n - (intOf u).toNat)
  case atStart => exact ⟨0, by omega, rfl, rfl, by rw [seen_zero]⟩
  case round =>
    obtain ⟨k, hk, rfl, rfl, rfl⟩ := hrel
    by_cases hlt : k < n
    · have hd : decide ((k : Int) < (n : Int)) = true := decide_eq_true (by omega)
      have hd' : decide (k < n) = true := decide_eq_true hlt
      have hkl : k < zs.length := by rw [hn]; exact hlt
      obtain ⟨b0, o0, rfl, hc0⟩ := (hr.later hL6).at_ (k := k) (by simpa using hkl)
      rw [List.getElem_map] at hc0
      obtain ⟨z, hz⟩ : ∃ z, zs[k] = z := ⟨_, rfl⟩
      rw [hz] at hc0
      have HZ := Lib.hid hz
      clear hz hn
      cases hb : bad maxAmt z with
      | true =>
        go_wp2_with (first
          | (go_at_call 14; refine (right5_any z _).mono ?_; rintro e w6 ⟨rfl, rfl⟩; rw [hb])
          | fail)
        go_roundw
        case rel => exact ⟨k + 1, by omega, by go_num, (by first | rfl | trivial), by rw [seen_bad hkl (by rw [HZ.out]; exact hb)]⟩
        case measure => simp [intOf]; omega
      | false =>
        go_wp2_with (first
          | (go_at_call 14; refine (right5_any z _).mono ?_; rintro e w6 ⟨rfl, rfl⟩; rw [hb])
          | fail)
        go_roundw
        case rel => exact ⟨k + 1, by omega, by go_num, (by first | rfl | trivial), by rw [seen_ok hkl (by rw [HZ.out]; exact hb)]⟩
        case measure => simp [intOf]; omega
    · obtain rfl : k = n := by omega
      have hd : decide ((k : Int) < (k : Int)) = false := decide_eq_false (by omega)
      have hd' : decide (k < k) = false := decide_eq_false (by omega)
      have hck := fun W (h : Later w2 W) => check_any (some ⟨b, o, none⟩) k c2 zs W hn (by omega) (hrz.later h)
      simp only [seen_all hn] at hck
      have hsm := fun W (h : Later w2 W) => same_any (some ⟨b, o, none⟩) A k k c2 c zs zs W hn hn (by omega) (by omega) (hrz.later h) (hr.later (hL2.step h))
      rw [decide_eq_true rfl] at hsm
      generalize seen zs k = okv at *
      have hL7 := Lib.hid hL5
      go_upto_region 14 with fail
      go_wp2_with (first
        | (go_at_call 15; refine (num5_any _ _).mono ?_; rintro e wb ⟨rfl, rfl⟩)
        | (go_at_call 16; refine (hck _ hL5).mono ?_; clear hck; rintro e w5 ⟨rfl, hLC⟩; have hLD := Later.step hL5 hLC)
        | (go_at_call 17; refine (hsm _ hLD).mono ?_; clear hsm; rintro e w6 ⟨rfl, hLE⟩; have hLF := Later.step hLD hLE; have h77' := cell_later h77 hLF; have hLG := hL2.step hLF)
        | (go_at_call 9; refine (hwk _ hLG).mono ?_; clear hwk; rintro e w7 ⟨rfl, hLH⟩)
        | fail)
      exact HΦ.out _ _ ⟨rfl, hLG.step hLH⟩
end Go.Proofs.YtcfhhljjknmniaaDoor
