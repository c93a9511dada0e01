/- money: the amount of a text: the walk. -/
import Derived.Test.YtcfhhljjknmniaaDoorMm10
import Derived.Lib.SmallJoins
set_option linter.unusedVariables false
set_option linter.unusedSimpArgs false
namespace Go.Proofs.YtcfhhljjknmniaaDoor
open Go.RowKit
def notInt (l : List UInt8) : Prop := ∀ v, Lib.parseIntB 64 l ≠ .ok v
theorem parseInt_any (l : List UInt8) (w : World) (hl : l.length ≤ 1000) (hT : Tabs w) :
    Calls Tryd.prog 39 #[.string ⟨l.toArray⟩, .int .i64 10, .int .i64 64] w fun e w' => ((∃ v, e = .returned (.tuple #[.int .i64 v, .nilIface]) ∧ Lib.parseIntB 64 l = .ok v) ∨ (∃ v p, e = .returned (.tuple #[.int .i64 v, .iface 127 (.pointer p)]) ∧ notInt l)) ∧ Later w w' := by
  have hs : (⟨l.toArray⟩ : ByteArray).size = l.length := by show l.toArray.size = _; simp
  cases hp : Lib.parseIntB 64 l
  · rename_i v
    refine (Tryd.strconv_ParseInt_10_at64_ok ⟨l.toArray⟩ (by rw [hs]; omega) v hp w).mono fun e w' ⟨he, hw⟩ => ⟨.inl ⟨v, he, rfl⟩, ?_⟩
    rcases hw with rfl | ⟨t, rfl⟩
    · exact Later.refl _
    · exact Go.Joins.below_bytesWorld _ _ _ _ (Nat.le_refl _)
  · obtain ⟨tp, p, hv⟩ := hT.syn
    exact (Any.strconv_ParseInt_10_at64_syntax_var Tryd.laysC174 ⟨l.toArray⟩ (by rw [hs]; omega) hp tp p w hv).mono fun e w' ⟨N, he, _, _, hb⟩ => ⟨.inr ⟨_, _, he, fun v h => by rw [hp] at h; cases h⟩, hb⟩
  · obtain ⟨tp, p, hv⟩ := hT.rng
    exact (Tryd.strconv_ParseInt_10_at64_range_var ⟨l.toArray⟩ (by rw [hs]; omega) hp tp p w hv).mono fun e w' ⟨N, he, _, _, hb⟩ => ⟨.inr ⟨_, _, he, fun v h => by rw [hp] at h; cases h⟩, hb⟩
def fullU (u : List UInt8) : List UInt8 := u ++ Lib.repeatL [48] (8 - u.length)
def parseC (s c u : List UInt8) : Int × Int :=
  match Lib.parseIntB 64 c, Lib.parseIntB 64 (fullU u) with
  | .ok n, .ok m => if !bad 11258999 n && !bad 99999999 m && amts [n * 100000000 + m] && decide (coinT (n * 100000000 + m).toNat = s) then (n * 100000000 + m, 0) else (0, 152)
  | _, _ => (0, 152)
def parseS (s : List UInt8) : Int × Int := if s.length ≤ 30 ∧ (cutP s).2.1.length ≤ 8 then parseC s (cutP s).1 (cutP s).2.1 else (0, 152)
theorem parseC_no1 {s c u : List UInt8} (h : notInt c) : parseC s c u = (0, 152) := by
  unfold parseC
  split
  · rename_i n m h1 h2; exact absurd h1 (h n)
  · rfl
theorem parseC_no2 {s c u : List UInt8} (h : notInt (fullU u)) : parseC s c u = (0, 152) := by
  unfold parseC
  split
  · rename_i n m h1 h2; exact absurd h2 (h m)
  · rfl
theorem parseC_ok {s c u : List UInt8} {n m : Int} (h1 : Lib.parseIntB 64 c = .ok n) (h2 : Lib.parseIntB 64 (fullU u) = .ok m) :
    parseC s c u = if !bad 11258999 n && !bad 99999999 m && amts [n * 100000000 + m] && decide (coinT (n * 100000000 + m).toNat = s) then (n * 100000000 + m, 0) else (0, 152) := by
  unfold parseC
  rw [h1, h2]
theorem in_one (most z : Int) : (![z].any (bad most)) = !bad most z := by simp
set_option maxRecDepth 100000 in
theorem parse_any (s : List UInt8) (w : World) (hT : Tabs w) (hs : s.length ≤ 9223372036854775807) :
    Calls Tryd.prog 22 #[.string ⟨s.toArray⟩] w fun e w' => e = .returned (.tuple #[.int .i64 (parseS s).1, .int .i64 (parseS s).2]) ∧ Below w.heap.size w w' := by
  refine Calls.post fun Φ HΦ => ?_
  by_cases hlen : s.length ≤ 30
  case neg =>
    have hS : parseS s = (0, 152) := by unfold parseS; rw [if_neg (fun h => hlen h.1)]
    rw [hS] at HΦ
    have hd : decide (30 < s.length) = true := decide_eq_true (by omega)
    have hd2 : decide ((30 : Int) < (s.length : Int)) = true := decide_eq_true (by omega)
    go_enter Tryd.func22, Tryd.ntmps22
    go_wp2_with fail
    exact HΦ.out _ _ ⟨rfl, Later.refl _⟩
  have hd : decide (30 < s.length) = false := decide_eq_false (by omega)
  have hd2 : decide ((30 : Int) < (s.length : Int)) = false := decide_eq_false (by omega)
  have hcut := cut_any s w (by omega)
  obtain ⟨hc1, hc2⟩ := cutP_len s
  by_cases hul : (cutP s).2.1.length ≤ 8
  case neg =>
    have hS : parseS s = (0, 152) := by unfold parseS; rw [if_neg (fun h => hul h.2)]
    rw [hS] at HΦ
    generalize cutP s = C at *
    have hd3 : decide (8 < C.2.1.length) = true := decide_eq_true (by omega)
    have hd4 : decide ((8 : Int) < (C.2.1.length : Int)) = true := decide_eq_true (by omega)
    go_enter Tryd.func22, Tryd.ntmps22
    go_wp2_with (first
      | (go_at_call 38; refine hcut.mono ?_; rintro e w1 ⟨rfl, hL1⟩)
      | fail)
    exact HΦ.out _ _ ⟨rfl, hL1⟩
  have hS : parseS s = parseC s (cutP s).1 (cutP s).2.1 := by unfold parseS; rw [if_pos ⟨hlen, hul⟩]
  rw [hS] at HΦ
  generalize cutP s = C at *
  obtain ⟨c, u, f⟩ := C
  simp only at hc1 hc2 hul hcut HΦ
  have hd3 : decide (8 < u.length) = false := decide_eq_false (by omega)
  have hd4 : decide ((8 : Int) < (u.length : Int)) = false := decide_eq_false (by omega)
  obtain ⟨p, hp⟩ : ∃ p, 8 - u.length = p := ⟨_, rfl⟩
  have d3 : (8 : Int) - (u.length : Int) = (p : Int) := by omega
  have hpb : p ≤ 8 := by omega
  have hrep := fun W => Tryd.strings_Repeat ⟨#[48]⟩ p W (by omega) (by show 1 * p ≤ _; omega)
  rw [show (⟨#[48]⟩ : ByteArray).data.toList = [48] from rfl] at hrep
  have hrl := repeatL_one p
  have hfu : fullU u = u ++ Lib.repeatL [48] p := by unfold fullU; rw [hp]
  generalize Lib.repeatL [48] p = R at *
  have hcat : (⟨u.toArray⟩ : ByteArray) ++ ⟨R.toArray⟩ = ⟨(fullU u).toArray⟩ := by rw [ba_append, hfu]
  have hfl : (fullU u).length ≤ 100 := by rw [hfu, List.length_append]; omega
  have hp1 := fun W (h : Later w W) => parseInt_any c W (by omega) (hT.later h)
  have hp2 := fun W (h : Later w W) => parseInt_any (fullU u) W (by omega) (hT.later h)
  have htx := fun v W (h : Later w W) => text_any v W (hT.later h)
  have hin1 := fun n W => in_any 11258999 (some ⟨World.heap W |>.size, 0, none⟩) 1 1 [n] _ rfl (by omega) (rd1Z n W)
  have hin2 := fun n W => in_any 99999999 (some ⟨World.heap W |>.size, 0, none⟩) 1 1 [n] _ rfl (by omega) (rd1Z n W)
  simp only [in_one] at hin1 hin2
  have HFU := Lib.hid hfu
  have HCAT := Lib.hid hcat
  have HTX := Lib.hid htx
  have HP1 := Lib.hid hp1
  have HP2 := Lib.hid hp2
  clear hfu hp hS hlen hT hc1 hc2 hs htx hp1 hp2 hcat
  go_enter Tryd.func22, Tryd.ntmps22
  go_upto_region 7 with (first
    | (go_at_call 38; refine hcut.mono ?_; clear hcut; rintro e w1 ⟨rfl, hL1⟩)
    | (go_at_call 37; refine (hrep _).mono ?_; clear hrep; rintro e w2 ⟨rfl, hL2⟩; have hLa := hL1.step hL2; clear hL1 hL2)
    | fail)
  rw [HCAT.out]
  go_upto_region 9 with (first
    | (go_at_call 39; refine (HP1.out _ hLa).mono ?_; clear HP1; rintro e w3 ⟨h3, hL3⟩; have hLb := hLa.step hL3; clear hLa hL3; rcases h3 with ⟨n, rfl, hok1⟩ | ⟨n, q, rfl, hno1⟩)
    | (go_at_call 39; refine (HP2.out _ hLb).mono ?_; clear HP2; rintro e w4 ⟨h4, hL4⟩; have hLc := hLb.step hL4; clear hLb hL4; rcases h4 with ⟨m, rfl, hok2⟩ | ⟨m, q2, rfl, hno2⟩)
    | fail)

  · have hC := parseC_ok (s := s) hok1 hok2
    cases hb1 : bad 11258999 n with
    | true =>
      rw [hb1] at hC
      rw [hC] at HΦ
      simp only [Bool.not_true, Bool.false_and, Bool.false_eq_true, if_false] at HΦ
      have hin1 := hin1 n
      simp only [hb1] at hin1
      go_wp2_with (first
          | (refine wpList_buildSl rfl 22 1 _ rfl #[(0, .int .i64 _)] rfl (build1Z _ _) ?_)
          | (go_at_call 32; refine (hin1 _).mono ?_; clear hin1; rintro e w5 ⟨rfl, hL5⟩; have hLd := (hLc.alloc _).step hL5; clear hLc hL5)
          | fail)
      exact HΦ.out _ _ ⟨rfl, hLd⟩
    | false =>
      have hin1 := hin1 n
      simp only [hb1] at hin1
      cases hb2 : bad 99999999 m with
      | true =>
        rw [hC, hb1, hb2] at HΦ
        simp only [Bool.not_true, Bool.not_false, Bool.and_false, Bool.false_and, Bool.false_eq_true, if_false] at HΦ
        have hin2 := hin2 m
        simp only [hb2] at hin2
        go_wp2_with (first
            | (refine wpList_buildSl rfl 22 1 _ rfl #[(0, .int .i64 _)] rfl (build1Z _ _) ?_)
            | (go_at_call 32; refine (hin1 _).mono ?_; clear hin1; rintro e w5 ⟨rfl, hL5⟩; have hLd := (hLc.alloc _).step hL5; clear hLc hL5)
            | (go_at_call 32; refine (hin2 _).mono ?_; clear hin2; rintro e w6 ⟨rfl, hL6⟩; have hLe := (hLd.alloc _).step hL6; clear hLd hL6)
            | fail)
        exact HΦ.out _ _ ⟨rfl, hLe⟩
      | false =>
        have hin2 := hin2 m
        simp only [hb2] at hin2
        rw [hC, hb1, hb2] at HΦ
        simp only [Bool.not_false, Bool.true_and] at HΦ
        have hr1 : 0 ≤ n ∧ n ≤ 11258999 := by simp [bad] at hb1; omega
        have hr2 : 0 ≤ m ∧ m ≤ 99999999 := by simp [bad] at hb2; omega
        have c1 : IntKind.i64.wrap (n * 100000000) = n * 100000000 := IntWalk.i64_in _ (by omega)
        have c2 : IntKind.i64.wrap (n * 100000000 + m) = n * 100000000 + m := IntWalk.i64_in _ (by omega)
        obtain ⟨v, hv⟩ : ∃ v, n * 100000000 + m = v := ⟨_, rfl⟩
        rw [hv] at c2 HΦ
        obtain ⟨T, hT⟩ : ∃ T, textS v = T := ⟨_, rfl⟩
        have htx := fun W (h : Later w W) => HTX.out v W h
        rw [hT] at htx
        have HTX := Lib.hid htx
        have HV := Lib.hid hv
        clear htx hC hb1 hb2 hok1 hok2 hrl hd hd2 hd3 hd4 d3 hpb hul hfl
        have e1 : n * 100000000 + m = v := HV.out
        go_upto_region 13 with (first
            | (refine wpList_buildSl rfl 22 1 _ rfl #[(0, .int .i64 _)] rfl (build1Z _ _) ?_)
            | (go_at_call 32; refine (hin1 _).mono ?_; clear hin1; rintro e w5 ⟨rfl, hL5⟩; have hLd := (hLc.alloc _).step hL5; clear hLc hL5)
            | (go_at_call 32; refine (hin2 _).mono ?_; clear hin2; rintro e w6 ⟨rfl, hL6⟩; have hLe := (hLd.alloc _).step hL6; clear hLd hL6)
            | (go_at_call 20; refine (HTX.out _ hLe).mono ?_; clear HTX; rintro e w7 ⟨rfl, hL7⟩; have hLf := hLe.step hL7; clear hLe hL7)
            | fail)
        cases hav : amts [v] with
        | false =>
          have hT0 : T = ([], 2) := by rw [← hT]; unfold textS; rw [hav]; rfl
          subst hT0
          rw [hav, Bool.false_and] at HΦ
          clear hT
          go_wp2_with fail
          exact HΦ.out _ _ ⟨rfl, hLf⟩
        | true =>
          have hT0 : T = (coinT v.toNat, 0) := by rw [← hT]; unfold textS; rw [hav]; rfl
          subst hT0
          rw [hav, Bool.true_and] at HΦ
          clear hT
          obtain ⟨q, hq⟩ : ∃ q, coinT v.toNat = q := ⟨_, rfl⟩
          rw [hq] at HΦ ⊢
          clear hq
          by_cases hts : q = s
          · subst hts
            rw [decide_eq_true rfl] at HΦ
            go_wp2_with fail
            exact HΦ.out _ _ ⟨rfl, hLf⟩
          · rw [decide_eq_false hts] at HΦ
            have x1 : decide (q = s) = false := decide_eq_false hts
            have x2 : (q == s) = false := beq_eq_false_iff_ne.2 hts
            have x3 : (q != s) = true := bne_iff_ne.2 hts
            go_wp2_with fail
            exact HΦ.out _ _ ⟨rfl, hLf⟩
  · rw [parseC_no2 hno2] at HΦ
    clear hin1 hin2 HTX
    go_wp2_with (first
        | fail)
    exact HΦ.out _ _ ⟨rfl, hLc⟩
  · rw [parseC_no1 hno1] at HΦ
    clear hin1 hin2 HTX
    go_wp2_with (first
        | fail)
    exact HΦ.out _ _ ⟨rfl, hLc⟩
  · rw [parseC_no1 hno1] at HΦ
    clear hin1 hin2 HTX
    go_wp2_with (first
        | fail)
    exact HΦ.out _ _ ⟨rfl, hLc⟩
end Go.Proofs.YtcfhhljjknmniaaDoor
