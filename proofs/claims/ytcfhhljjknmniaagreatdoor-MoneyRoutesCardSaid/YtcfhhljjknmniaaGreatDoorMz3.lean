/- Joined: Mm10, Mm11, Mm12, Mm13. -/
import Derived.Test.YtcfhhljjknmniaaGreatDoorMz2
import Derived.Lib.SmallJoins
set_option linter.unusedVariables false
set_option linter.unusedSimpArgs false
namespace Go.Proofs.YtcfhhljjknmniaaGreatDoor
open Go.RowKit
/-- Where the point stands, or -1. -/
def pointAt (l : List UInt8) : Int := Lib.indexByte l 46
def cutP (l : List UInt8) : List UInt8 × List UInt8 × Bool := if 0 ≤ pointAt l then (l.take (pointAt l).toNat, l.drop ((pointAt l).toNat + 1), true) else (l, [], false)
theorem pointAt_lt : ∀ (l : List UInt8), pointAt l < l.length ∧ -1 ≤ pointAt l
  | [] => by simp [pointAt, Lib.indexByte]
  | b :: l => by
    obtain ⟨h1, h2⟩ := pointAt_lt l
    unfold pointAt at *
    rw [Lib.indexByte, List.length_cons]
    split
    · omega
    · split
      · omega
      · omega
theorem results_tmp3 {P : Program} {fn : Func} {p q r : Tmp} (h : fn.results = #[.tmp p, .tmp q, .tmp r]) (tmps : Array Value) (w : World) (x y z : Value) (hx : tmps.getD p undef = x) (hy : tmps.getD q undef = y) (hz : tmps.getD r undef = z) :
    (results fn tmps).run P w = .ok (.tuple #[x, y, z]) w := by
  have hp' : tmps[p]?.getD undef = x := by simpa using hx
  have hq' : tmps[q]?.getD undef = y := by simpa using hy
  have hr' : tmps[r]?.getD undef = z := by simpa using hz
  simp [results, h, hp', hq', hr']
theorem ba_extract (l : List UInt8) (i j : Nat) : (⟨l.toArray⟩ : ByteArray).extract i j = ⟨((l.take j).drop i).toArray⟩ := by
  apply ByteArray.ext
  rw [ByteArray.data_extract]
  apply Array.toList_inj.1
  rw [Array.toList_extract]
  rw [List.extract_eq_take_drop]
  exact List.drop_take.symm
set_option maxRecDepth 100000 in
theorem cutLite_any (l : List UInt8) (w : World) (hl : l.length ≤ 1000) :
    Calls Tryz.prog 53 #[.string ⟨l.toArray⟩, .string ⟨#[46]⟩] w fun e w' => e = .returned (.tuple #[.string ⟨(cutP l).1.toArray⟩, .string ⟨(cutP l).2.1.toArray⟩, .bool (cutP l).2.2]) ∧ Later w w' := by
  refine Calls.post fun Φ HΦ => ?_
  have hix := fun W => Tryz.stringslite_Index_one ⟨l.toArray⟩ 46 W
  rw [show (⟨l.toArray⟩ : ByteArray).data.toList = l from rfl] at hix
  rw [show Lib.indexByte l 46 = pointAt l from rfl] at hix
  obtain ⟨hp1, hp2⟩ := pointAt_lt l
  by_cases hp : 0 ≤ pointAt l
  · obtain ⟨k, hk⟩ : ∃ k : Nat, pointAt l = k := ⟨(pointAt l).toNat, by omega⟩
    have hS : cutP l = (l.take k, l.drop (k + 1), true) := by unfold cutP; rw [if_pos hp, hk]; rfl
    rw [hS] at HΦ
    simp only [hk] at hix
    have hkl : k < l.length := by omega
    have hd : decide (0 ≤ (k : Int)) = true := decide_eq_true (by omega)
    clear hp1 hp2 hp hk hS
    go_enter Tryz.func53, Tryz.ntmps53
    go_wp2_with (first
      | (go_at_call 69; refine (hix _).mono ?_; rintro e w1 ⟨rfl, hw1⟩; subst hw1)
      | fail)
    go_region
    go_wp2
    refine bodyPost_ret (results_tmp3 rfl _ _ _ _ _ rfl rfl rfl) rfl (HΦ.out _ _ ⟨?_, (Later.refl _).drew⟩)
    show Ending.returned (.tuple #[.string ((⟨l.toArray⟩ : ByteArray).extract 0 k), .string ((⟨l.toArray⟩ : ByteArray).extract (k + 1) l.length), .bool true]) = _
    rw [ba_extract, ba_extract, List.drop_zero, List.take_of_length_le (Nat.le_refl _)]
  · have hk : pointAt l = -1 := by omega
    have hS : cutP l = (l, [], false) := by unfold cutP; rw [if_neg hp]
    rw [hS] at HΦ
    simp only [hk] at hix
    clear hp1 hp2 hp hk hS
    go_enter Tryz.func53, Tryz.ntmps53
    go_wp2_with (first
      | (go_at_call 69; refine (hix _).mono ?_; rintro e w1 ⟨rfl, hw1⟩; subst hw1)
      | fail)
    exact bodyPost_ret (results_tmp3 rfl _ _ _ _ _ rfl rfl rfl) rfl (HΦ.out _ _ ⟨rfl, Later.refl _⟩)
theorem cut_any (l : List UInt8) (w : World) (hl : l.length ≤ 1000) :
    Calls Tryz.prog 34 #[.string ⟨l.toArray⟩, .string ⟨#[46]⟩] w fun e w' => e = .returned (.tuple #[.string ⟨(cutP l).1.toArray⟩, .string ⟨(cutP l).2.1.toArray⟩, .bool (cutP l).2.2]) ∧ Later w w' := by
  refine Calls.post fun Φ HΦ => ?_
  have hc := cutLite_any l w hl
  generalize cutP l = C at *
  go_enter Tryz.func34, Tryz.ntmps34
  go_wp2_with (first
    | (go_at_call 53; refine hc.mono ?_; rintro e w1 ⟨rfl, hL1⟩)
    | fail)
  exact bodyPost_ret (results_tmp3 rfl _ _ _ _ _ rfl rfl rfl) rfl (HΦ.out _ _ ⟨rfl, hL1⟩)
theorem cutP_len (l : List UInt8) : (cutP l).1.length ≤ l.length ∧ (cutP l).2.1.length ≤ l.length := by
  unfold cutP
  split <;> simp [List.length_take] <;> omega
end Go.Proofs.YtcfhhljjknmniaaGreatDoor
namespace Go.Proofs.YtcfhhljjknmniaaGreatDoor
open Go.RowKit
def notInt (l : List UInt8) : Prop := ∀ v, Lib.parseIntB 64 l ≠ .ok v
theorem parseInt_any (l : List UInt8) (w : World) (hl : l.length ≤ 1000) (hT : Tabs w) :
    Calls Tryz.prog 35 #[.string ⟨l.toArray⟩, .int .i64 10, .int .i64 64] w fun e w' => ((∃ v, e = .returned (.tuple #[.int .i64 v, .nilIface]) ∧ Lib.parseIntB 64 l = .ok v) ∨ (∃ v p, e = .returned (.tuple #[.int .i64 v, .iface 113 (.pointer p)]) ∧ notInt l)) ∧ Later w w' := by
  have hs : (⟨l.toArray⟩ : ByteArray).size = l.length := by show l.toArray.size = _; simp
  cases hp : Lib.parseIntB 64 l
  · rename_i v
    refine (Tryz.strconv_ParseInt_10_at64_ok ⟨l.toArray⟩ (by rw [hs]; omega) v hp w).mono fun e w' ⟨he, hw⟩ => ⟨.inl ⟨v, he, rfl⟩, ?_⟩
    rcases hw with rfl | ⟨t, rfl⟩
    · exact Later.refl _
    · exact Go.Joins.below_bytesWorld _ _ _ _ (Nat.le_refl _)
  · obtain ⟨tp, p, hv⟩ := hT.syn
    exact (Any.strconv_ParseInt_10_at64_syntax_var Tryz.laysC174 ⟨l.toArray⟩ (by rw [hs]; omega) hp tp p w hv).mono fun e w' ⟨N, he, _, _, hb⟩ => ⟨.inr ⟨_, _, he, fun v h => by rw [hp] at h; cases h⟩, hb⟩
  · obtain ⟨tp, p, hv⟩ := hT.rng
    exact (Tryz.strconv_ParseInt_10_at64_range_var ⟨l.toArray⟩ (by rw [hs]; omega) hp tp p w hv).mono fun e w' ⟨N, he, _, _, hb⟩ => ⟨.inr ⟨_, _, he, fun v h => by rw [hp] at h; cases h⟩, hb⟩
def fullU (u : List UInt8) : List UInt8 := u ++ Lib.repeatL [48] (8 - u.length)
def parseC (s c u : List UInt8) : Int × Int :=
  match Lib.parseIntB 64 c, Lib.parseIntB 64 (fullU u) with
  | .ok n, .ok m => if !bad 11258999 n && !bad 99999999 m && amts [n * 100000000 + m] && decide (coinT (n * 100000000 + m).toNat = s) then (n * 100000000 + m, 0) else (0, 152)
  | _, _ => (0, 152)
def parseS (s : List UInt8) : Int × Int := if s.length ≤ 30 ∧ (cutP s).2.1.length ≤ 8 then parseC s (cutP s).1 (cutP s).2.1 else (0, 152)
theorem parseC_no1 {s c u : List UInt8} (h : notInt c) : parseC s c u = (0, 152) := by
  unfold parseC
  split
  · rename_i n m h1 h2; exact absurd h1 (h n)
  · rfl
theorem parseC_no2 {s c u : List UInt8} (h : notInt (fullU u)) : parseC s c u = (0, 152) := by
  unfold parseC
  split
  · rename_i n m h1 h2; exact absurd h2 (h m)
  · rfl
theorem parseC_ok {s c u : List UInt8} {n m : Int} (h1 : Lib.parseIntB 64 c = .ok n) (h2 : Lib.parseIntB 64 (fullU u) = .ok m) :
    parseC s c u = if !bad 11258999 n && !bad 99999999 m && amts [n * 100000000 + m] && decide (coinT (n * 100000000 + m).toNat = s) then (n * 100000000 + m, 0) else (0, 152) := by
  unfold parseC
  rw [h1, h2]
theorem in_one (most z : Int) : (![z].any (bad most)) = !bad most z := by simp
set_option maxRecDepth 100000 in
theorem parse_any (s : List UInt8) (w : World) (hT : Tabs w) (hs : s.length ≤ 9223372036854775807) :
    Calls Tryz.prog 23 #[.string ⟨s.toArray⟩] w fun e w' => e = .returned (.tuple #[.int .i64 (parseS s).1, .int .i64 (parseS s).2]) ∧ Below w.heap.size w w' := by
  refine Calls.post fun Φ HΦ => ?_
  by_cases hlen : s.length ≤ 30
  case neg =>
    have hS : parseS s = (0, 152) := by unfold parseS; rw [if_neg (fun h => hlen h.1)]
    rw [hS] at HΦ
    have hd : decide (30 < s.length) = true := decide_eq_true (by omega)
    have hd2 : decide ((30 : Int) < (s.length : Int)) = true := decide_eq_true (by omega)
    go_enter Tryz.func23, Tryz.ntmps23
    go_wp2_with fail
    exact HΦ.out _ _ ⟨rfl, Later.refl _⟩
  have hd : decide (30 < s.length) = false := decide_eq_false (by omega)
  have hd2 : decide ((30 : Int) < (s.length : Int)) = false := decide_eq_false (by omega)
  have hcut := cut_any s w (by omega)
  obtain ⟨hc1, hc2⟩ := cutP_len s
  by_cases hul : (cutP s).2.1.length ≤ 8
  case neg =>
    have hS : parseS s = (0, 152) := by unfold parseS; rw [if_neg (fun h => hul h.2)]
    rw [hS] at HΦ
    generalize cutP s = C at *
    have hd3 : decide (8 < C.2.1.length) = true := decide_eq_true (by omega)
    have hd4 : decide ((8 : Int) < (C.2.1.length : Int)) = true := decide_eq_true (by omega)
    go_enter Tryz.func23, Tryz.ntmps23
    go_wp2_with (first
      | (go_at_call 34; refine hcut.mono ?_; rintro e w1 ⟨rfl, hL1⟩)
      | fail)
    exact HΦ.out _ _ ⟨rfl, hL1⟩
  have hS : parseS s = parseC s (cutP s).1 (cutP s).2.1 := by unfold parseS; rw [if_pos ⟨hlen, hul⟩]
  rw [hS] at HΦ
  generalize cutP s = C at *
  obtain ⟨c, u, f⟩ := C
  simp only at hc1 hc2 hul hcut HΦ
  have hd3 : decide (8 < u.length) = false := decide_eq_false (by omega)
  have hd4 : decide ((8 : Int) < (u.length : Int)) = false := decide_eq_false (by omega)
  obtain ⟨p, hp⟩ : ∃ p, 8 - u.length = p := ⟨_, rfl⟩
  have d3 : (8 : Int) - (u.length : Int) = (p : Int) := by omega
  have hpb : p ≤ 8 := by omega
  have hrep := fun W => Tryz.strings_Repeat ⟨#[48]⟩ p W (by omega) (by show 1 * p ≤ _; omega)
  rw [show (⟨#[48]⟩ : ByteArray).data.toList = [48] from rfl] at hrep
  have hrl := repeatL_one p
  have hfu : fullU u = u ++ Lib.repeatL [48] p := by unfold fullU; rw [hp]
  generalize Lib.repeatL [48] p = R at *
  have hcat : (⟨u.toArray⟩ : ByteArray) ++ ⟨R.toArray⟩ = ⟨(fullU u).toArray⟩ := by rw [ba_append, hfu]
  have hfl : (fullU u).length ≤ 100 := by rw [hfu, List.length_append]; omega
  have hp1 := fun W (h : Later w W) => parseInt_any c W (by omega) (hT.later h)
  have hp2 := fun W (h : Later w W) => parseInt_any (fullU u) W (by omega) (hT.later h)
  have htx := fun v W (h : Later w W) => text_any v W (hT.later h)
  have hin1 := fun n W => in_any 11258999 (some ⟨World.heap W |>.size, 0, none⟩) 1 1 [n] _ rfl (by omega) (rd1Z n W)
  have hin2 := fun n W => in_any 99999999 (some ⟨World.heap W |>.size, 0, none⟩) 1 1 [n] _ rfl (by omega) (rd1Z n W)
  simp only [in_one] at hin1 hin2
  have HFU := Lib.hid hfu
  have HCAT := Lib.hid hcat
  have HTX := Lib.hid htx
  have HP1 := Lib.hid hp1
  have HP2 := Lib.hid hp2
  clear hfu hp hS hlen hT hc1 hc2 hs htx hp1 hp2 hcat
  go_enter Tryz.func23, Tryz.ntmps23
  go_upto_region 7 with (first
    | (go_at_call 34; refine hcut.mono ?_; clear hcut; rintro e w1 ⟨rfl, hL1⟩)
    | (go_at_call 33; refine (hrep _).mono ?_; clear hrep; rintro e w2 ⟨rfl, hL2⟩; have hLa := hL1.step hL2; clear hL1 hL2)
    | fail)
  rw [HCAT.out]
  go_upto_region 9 with (first
    | (go_at_call 35; refine (HP1.out _ hLa).mono ?_; clear HP1; rintro e w3 ⟨h3, hL3⟩; have hLb := hLa.step hL3; clear hLa hL3; rcases h3 with ⟨n, rfl, hok1⟩ | ⟨n, q, rfl, hno1⟩)
    | (go_at_call 35; refine (HP2.out _ hLb).mono ?_; clear HP2; rintro e w4 ⟨h4, hL4⟩; have hLc := hLb.step hL4; clear hLb hL4; rcases h4 with ⟨m, rfl, hok2⟩ | ⟨m, q2, rfl, hno2⟩)
    | fail)

  · have hC := parseC_ok (s := s) hok1 hok2
    cases hb1 : bad 11258999 n with
    | true =>
      rw [hb1] at hC
      rw [hC] at HΦ
      simp only [Bool.not_true, Bool.false_and, Bool.false_eq_true, if_false] at HΦ
      have hin1 := hin1 n
      simp only [hb1] at hin1
      go_wp2_with (first
          | (refine wpList_buildSl rfl 33 1 _ rfl #[(0, .int .i64 _)] rfl (build1Z _ _) ?_)
          | (go_at_call 27; refine (hin1 _).mono ?_; clear hin1; rintro e w5 ⟨rfl, hL5⟩; have hLd := (hLc.alloc _).step hL5; clear hLc hL5)
          | fail)
      exact HΦ.out _ _ ⟨rfl, hLd⟩
    | false =>
      have hin1 := hin1 n
      simp only [hb1] at hin1
      cases hb2 : bad 99999999 m with
      | true =>
        rw [hC, hb1, hb2] at HΦ
        simp only [Bool.not_true, Bool.not_false, Bool.and_false, Bool.false_and, Bool.false_eq_true, if_false] at HΦ
        have hin2 := hin2 m
        simp only [hb2] at hin2
        go_wp2_with (first
            | (refine wpList_buildSl rfl 33 1 _ rfl #[(0, .int .i64 _)] rfl (build1Z _ _) ?_)
            | (go_at_call 27; refine (hin1 _).mono ?_; clear hin1; rintro e w5 ⟨rfl, hL5⟩; have hLd := (hLc.alloc _).step hL5; clear hLc hL5)
            | (go_at_call 27; refine (hin2 _).mono ?_; clear hin2; rintro e w6 ⟨rfl, hL6⟩; have hLe := (hLd.alloc _).step hL6; clear hLd hL6)
            | fail)
        exact HΦ.out _ _ ⟨rfl, hLe⟩
      | false =>
        have hin2 := hin2 m
        simp only [hb2] at hin2
        rw [hC, hb1, hb2] at HΦ
        simp only [Bool.not_false, Bool.true_and] at HΦ
        have hr1 : 0 ≤ n ∧ n ≤ 11258999 := by simp [bad] at hb1; omega
        have hr2 : 0 ≤ m ∧ m ≤ 99999999 := by simp [bad] at hb2; omega
        have c1 : IntKind.i64.wrap (n * 100000000) = n * 100000000 := IntWalk.i64_in _ (by omega)
        have c2 : IntKind.i64.wrap (n * 100000000 + m) = n * 100000000 + m := IntWalk.i64_in _ (by omega)
        obtain ⟨v, hv⟩ : ∃ v, n * 100000000 + m = v := ⟨_, rfl⟩
        rw [hv] at c2 HΦ
        obtain ⟨T, hT⟩ : ∃ T, textS v = T := ⟨_, rfl⟩
        have htx := fun W (h : Later w W) => HTX.out v W h
        rw [hT] at htx
        have HTX := Lib.hid htx
        have HV := Lib.hid hv
        clear htx hC hb1 hb2 hok1 hok2 hrl hd hd2 hd3 hd4 d3 hpb hul hfl
        have e1 : n * 100000000 + m = v := HV.out
        go_upto_region 13 with (first
            | (refine wpList_buildSl rfl 33 1 _ rfl #[(0, .int .i64 _)] rfl (build1Z _ _) ?_)
            | (go_at_call 27; refine (hin1 _).mono ?_; clear hin1; rintro e w5 ⟨rfl, hL5⟩; have hLd := (hLc.alloc _).step hL5; clear hLc hL5)
            | (go_at_call 27; refine (hin2 _).mono ?_; clear hin2; rintro e w6 ⟨rfl, hL6⟩; have hLe := (hLd.alloc _).step hL6; clear hLd hL6)
            | (go_at_call 22; refine (HTX.out _ hLe).mono ?_; clear HTX; rintro e w7 ⟨rfl, hL7⟩; have hLf := hLe.step hL7; clear hLe hL7)
            | fail)
        cases hav : amts [v] with
        | false =>
          have hT0 : T = ([], 2) := by rw [← hT]; unfold textS; rw [hav]; rfl
          subst hT0
          rw [hav, Bool.false_and] at HΦ
          clear hT
          go_wp2_with fail
          exact HΦ.out _ _ ⟨rfl, hLf⟩
        | true =>
          have hT0 : T = (coinT v.toNat, 0) := by rw [← hT]; unfold textS; rw [hav]; rfl
          subst hT0
          rw [hav, Bool.true_and] at HΦ
          clear hT
          obtain ⟨q, hq⟩ : ∃ q, coinT v.toNat = q := ⟨_, rfl⟩
          rw [hq] at HΦ ⊢
          clear hq
          by_cases hts : q = s
          · subst hts
            rw [decide_eq_true rfl] at HΦ
            go_wp2_with fail
            exact HΦ.out _ _ ⟨rfl, hLf⟩
          · rw [decide_eq_false hts] at HΦ
            have x1 : decide (q = s) = false := decide_eq_false hts
            have x2 : (q == s) = false := beq_eq_false_iff_ne.2 hts
            have x3 : (q != s) = true := bne_iff_ne.2 hts
            go_wp2_with fail
            exact HΦ.out _ _ ⟨rfl, hLf⟩
  · rw [parseC_no2 hno2] at HΦ
    clear hin1 hin2 HTX
    go_wp2_with (first
        | fail)
    exact HΦ.out _ _ ⟨rfl, hLc⟩
  · rw [parseC_no1 hno1] at HΦ
    clear hin1 hin2 HTX
    go_wp2_with (first
        | fail)
    exact HΦ.out _ _ ⟨rfl, hLc⟩
  · rw [parseC_no1 hno1] at HΦ
    clear hin1 hin2 HTX
    go_wp2_with (first
        | fail)
    exact HΦ.out _ _ ⟨rfl, hLc⟩
end Go.Proofs.YtcfhhljjknmniaaGreatDoor
namespace Go.Proofs.YtcfhhljjknmniaaGreatDoor
open Go.RowKit
theorem idxZ {b o n c i : Nat} (h : i < n) (hn : n ≤ 9223372036854775807) (W : World) : (Instr.indexAt 33 (.slice (some ⟨b, o, none⟩) n c) (.int .i64 (i : Int))).run Tryz.prog W = .ok (.pointer (some ⟨b, o + i, none⟩)) W := by
  have hd : decide ((i : Int) < (n : Int)) = true := decide_eq_true (by omega)
  have hd' : decide (i < n) = true := decide_eq_true h
  go_simp
theorem neqI (t : TypeId) (k : IntKind) (i j : Int) (W : World) : (binOp .neq t (.int k i) (.int k j)).run Tryz.prog W = .ok (.bool (i != j)) W := by go_simp
theorem take_eq {xs ys : List Int} {k : Nat} (hx : k < xs.length) (hy : k < ys.length) (h : xs.take k = ys.take k) (e : xs[k] = ys[k]) : xs.take (k + 1) = ys.take (k + 1) := by
  rw [List.take_add_one, List.take_add_one, List.getElem?_eq_getElem hx, List.getElem?_eq_getElem hy, h, e]
set_option maxRecDepth 100000 in
theorem same_any (A B : Option Addr) (n m c d : Nat) (xs ys : List Int) (w : World) (hn : xs.length = n) (hm : ys.length = m) (hnb : n ≤ 9223372036854775807) (hmb : m ≤ 9223372036854775807) (hx : RdV w A (xs.map numV)) (hy : RdV w B (ys.map numV)) :
    Calls Tryz.prog 13 #[.slice A n c, .slice B m d] w fun e w' => e = .returned (.bool (decide (xs = ys))) ∧ Later w w' := by
  refine Calls.post fun Φ HΦ => ?_
  by_cases hnm : n = m
  case neg =>
    have hd : decide ((n : Int) = (m : Int)) = false := decide_eq_false (by omega)
    have hd1 : ((n : Int) != (m : Int)) = true := bne_iff_ne.2 (by omega)
    have hd2 : decide (n = m) = false := decide_eq_false hnm
    have hS : decide (xs = ys) = false := decide_eq_false (fun e => hnm (by rw [← hn, ← hm, e]))
    rw [hS] at HΦ
    clear hS hn hm
    go_enter Tryz.func13, Tryz.ntmps13
    go_wp2_with fail
    exact HΦ.out _ _ ⟨rfl, Later.refl _⟩
  subst hnm
  have HN := Lib.hid hn
  have HM := Lib.hid hm
  clear hn hm
  go_enter Tryz.func13, Tryz.ntmps13
  go_wp2_with fail
  go_loopw [5] (fun t wr => ∃ k : Nat, k ≤ n ∧ t = .int .i64 k ∧ Later w wr ∧ xs.take k = ys.take k) (fun t _ => n - (intOf t).toNat)
  case atStart => exact ⟨0, by omega, rfl, Later.refl _, rfl⟩
  case round =>
    obtain ⟨k, hk, rfl, hL, htk⟩ := hrel
    by_cases hlt : k < n
    · have hd : decide ((k : Int) < (n : Int)) = true := decide_eq_true (by omega)
      have hd' : decide (k < n) = true := decide_eq_true hlt
      have hkx : k < xs.length := by rw [HN.out]; exact hlt
      have hky : k < ys.length := by rw [HM.out]; exact hlt
      obtain ⟨b, o, rfl, hc⟩ := (hx.later hL).at_ (k := k) (by simpa using hkx)
      obtain ⟨b2, o2, rfl, hc2⟩ := (hy.later hL).at_ (k := k) (by simpa using hky)
      rw [List.getElem_map] at hc hc2
      obtain ⟨x, hxe⟩ : ∃ x, xs[k] = x := ⟨_, rfl⟩
      obtain ⟨y, hye⟩ : ∃ y, ys[k] = y := ⟨_, rfl⟩
      rw [hxe] at hc
      rw [hye] at hc2
      have HTK := Lib.hid htk
      have HX := Lib.hid hxe
      have HY := Lib.hid hye
      clear htk hxe hye
      go_upto_region 6 with fail
      refine wp_region_list [Pr.eq (.slice (some ⟨b, o, none⟩) n c), Pr.eq (.int .i64 (k : Int)), Pr.eq (.pointer (some ⟨b, o + k, none⟩)), Pr.eq (numV x), Pr.eq (.slice (some ⟨b2, o2, none⟩) n d), Pr.eq (.int .i64 (k : Int)), Pr.eq (.pointer (some ⟨b2, o2 + k, none⟩)), Pr.eq (numV y), Pr.eq (.bool (x != y))] (by kernel_rfl) (by kernel_rfl) (by kernel_rfl) (by kernel_rfl) ⟨?_, ?_, ?_, ?_, ?_, ?_, ?_, ?_, ?_, trivial⟩ ?_
      · exact fun ac W hL he => stepOk_want rfl (op_move rfl (he.keep (.tmp 0) (by kernel_rfl)))
      · exact fun ac W hL he => stepOk_want rfl (op_move rfl (he.keep (.tmp 5) (by kernel_rfl)))
      · exact fun ac W hL he => stepOk_want rfl (op_idx rfl (he.get 0 17 (by kernel_rfl) rfl) (he.get 1 18 (by kernel_rfl) rfl) (idxZ hlt hnb W) rfl)
      · exact fun ac W hL he => stepOk_want rfl (op_load rfl (he.get 2 19 (by kernel_rfl) rfl) (loadInt (cell_later hc hL)) rfl)
      · exact fun ac W hL he => stepOk_want rfl (op_move rfl (he.keep (.tmp 1) (by kernel_rfl)))
      · exact fun ac W hL he => stepOk_want rfl (op_move rfl (he.keep (.tmp 5) (by kernel_rfl)))
      · exact fun ac W hL he => stepOk_want rfl (op_idx rfl (he.get 4 21 (by kernel_rfl) rfl) (he.get 5 22 (by kernel_rfl) rfl) (idxZ hlt hnb W) rfl)
      · exact fun ac W hL he => stepOk_want rfl (op_load rfl (he.get 6 23 (by kernel_rfl) rfl) (loadInt (cell_later hc2 hL)) rfl)
      · exact fun ac W hL he => stepOk_want rfl (op_binOp rfl (he.get 3 20 (by kernel_rfl) rfl) (he.get 7 24 (by kernel_rfl) rfl) rfl (neqI _ _ _ _ W) rfl)
      intro xs' W hLW hxs
      have h25 : xs' 8 = .bool (x != y) := hxs 8 (by decide)
      clear hxs
      simp only [putL, Nat.reduceAdd, Act.put, List.setIfInBounds_toArray, List.set_cons_succ, List.set_cons_zero, h25]
      clear h25
      have hL' := hL.step hLW
      clear hc hc2 hL hLW
      by_cases he : x = y
      · have e1 : (x != y) = false := by simpa using he
        rw [e1]
        go_wp2_with fail
        go_roundw
        case rel => exact ⟨k + 1, by omega, by go_num, hL', take_eq hkx hky HTK.out (by rw [HX.out, HY.out, he])⟩
        case measure => simp [intOf]; omega
      · have e1 : (x != y) = true := bne_iff_ne.2 he
        rw [e1]
        have hS : decide (xs = ys) = false := decide_eq_false (fun e => he (by subst e; rw [← HX.out, ← HY.out]))
        rw [hS] at HΦ
        clear hS
        go_wp2_with fail
        exact HΦ.out _ _ ⟨rfl, hL'⟩
    · obtain rfl : k = n := by omega
      have hd : decide ((k : Int) < (k : Int)) = false := decide_eq_false (by omega)
      have hd' : decide (k < k) = false := decide_eq_false (by omega)
      rw [List.take_of_length_le (by rw [HN.out]; exact Nat.le_refl _), List.take_of_length_le (by rw [HM.out]; exact Nat.le_refl _)] at htk
      rw [decide_eq_true htk] at HΦ
      clear htk
      go_wp2_with fail
      exact HΦ.out _ _ ⟨rfl, hL⟩
end Go.Proofs.YtcfhhljjknmniaaGreatDoor
namespace Go.Proofs.YtcfhhljjknmniaaGreatDoor
open Go.RowKit
/-- The digits, so that the kernel can count them. -/
def decF : Nat → Nat → List UInt8
  | 0, u => [UInt8.ofNat (48 + u)]
  | k + 1, u => if u < 10 then [UInt8.ofNat (48 + u)] else decF k (u / 10) ++ [UInt8.ofNat (48 + u % 10)]
theorem decF_eq : ∀ k u, u < 10 ^ (k + 1) → Lib.decDigits u = decF k u
  | 0, u, h => by rw [Lib.decDigits, dif_pos (by simpa using h)]; rfl
  | k + 1, u, h => by
    by_cases hu : u < 10
    · rw [Lib.decDigits, dif_pos hu, decF, if_pos hu]
    · rw [Lib.decDigits, dif_neg hu, decF, if_neg hu, decF_eq k (u / 10) (by rw [Nat.pow_succ] at h; omega)]
def unitsF (u : Nat) : List UInt8 := Lib.trimRightB (Lib.repeatL [48] (8 - (decF 7 u).length) ++ decF 7 u) 48
def coinF (a : Nat) : List UInt8 := if unitsF (a % 100000000) = [] then decF 7 (a / 100000000) else decF 7 (a / 100000000) ++ 46 :: unitsF (a % 100000000)
theorem coinF_eq (a : Nat) (h : a < 10000000000000000) : coinT a = coinF a := by
  unfold coinT coinF unitsT unitsF
  rw [decF_eq 7 (a / 100000000) (by omega), decF_eq 7 (a % 100000000) (by omega)]
theorem val_text1 : textS 150000000 = ([49, 46, 53], 0) := by
  unfold textS
  rw [coinF_eq _ (by decide)]
  kernel_rfl
theorem val_text2 : textS 5 = ([48, 46, 48, 48, 48, 48, 48, 48, 48, 53], 0) := by
  unfold textS
  rw [coinF_eq _ (by decide)]
  kernel_rfl
def parseF (s : List UInt8) : Int × Int :=
  if s.length ≤ 30 ∧ (cutP s).2.1.length ≤ 8 then
    match Lib.parseIntB 64 (cutP s).1, Lib.parseIntB 64 (fullU (cutP s).2.1) with
    | .ok n, .ok m => if !bad 11258999 n && !bad 99999999 m && amts [n * 100000000 + m] && decide (coinF (n * 100000000 + m).toNat = s) then (n * 100000000 + m, 0) else (0, 152)
    | _, _ => (0, 152)
  else (0, 152)
theorem parseF_eq (s : List UInt8) : parseS s = parseF s := by
  unfold parseS parseF parseC
  by_cases hc : s.length ≤ 30 ∧ (cutP s).2.1.length ≤ 8
  · rw [if_pos hc, if_pos hc]
    cases h1 : Lib.parseIntB 64 (cutP s).1 <;> cases h2 : Lib.parseIntB 64 (fullU (cutP s).2.1) <;> try rfl
    rename_i n m
    show (if _ then _ else _) = (if _ then _ else _)
    cases ha : amts [n * 100000000 + m] with
    | false => simp
    | true =>
      have := okAmt_iff ha
      rw [coinF_eq _ (by omega)]
  · rw [if_neg hc, if_neg hc]
theorem val_parse1 : parseS [49, 46, 53, 48] = (0, 152) := by rw [parseF_eq]; kernel_rfl
theorem val_parse2 : parseS [48, 46, 48, 48, 48, 48, 48, 48, 48, 53] = (5, 0) := by rw [parseF_eq]; kernel_rfl
theorem val_add : addS [1125899906842624, 1] = (0, 150) := by kernel_rfl
theorem val_less : lessS 5 [6] = (0, 151) := by kernel_rfl
theorem val_share : shareS 5000 1000 = (5, 0) := by kernel_rfl
theorem val_take : takeS 1 1000 5000 = (6, 0) := by kernel_rfl
theorem val_send : sendS 1 1000 5000 = (5006, 0) := by kernel_rfl
theorem val_route : routeS 5000 [(0, 0), (1, 1000)] = ([5006, 5006, 5000], 0) := by kernel_rfl
theorem buildFees (W : World) : (Instr.buildSlice 32 2 #[(0, feeV 0 0), (1, feeV 1 1000)]).run Tryz.prog W = .ok (.slice (some ⟨W.heap.size, 0, none⟩) 2 2) (W.alloc (.cells #[.int .i64 0, .int .i64 0, .int .i64 1, .int .i64 1000] 23)) := by kernel_rfl
theorem rdFees (W : World) : RdV (W.alloc (.cells #[.int .i64 0, .int .i64 0, .int .i64 1, .int .i64 1000] 23)) (some ⟨W.heap.size, 0, none⟩) (feesC [(0, 0), (1, 1000)]) := RdV.row (Row.new W 23 _)
set_option maxRecDepth 100000 in
set_option maxHeartbeats 2000000 in
theorem works_yes (w : World) (hT : Tabs w) : Calls Tryz.prog 10 #[] w fun e w' => e = .returned (.bool true) ∧ Below w.heap.size w w' := by
  refine Calls.post fun Φ HΦ => ?_
  have hadd := add_any (some ⟨w.heap.size, 0, none⟩) 2 2 [1125899906842624, 1] _ rfl (by omega) (rd2Z _ _ w)
  rw [val_add] at hadd
  have hL0 := (Later.refl w).alloc (.cells #[.int .i64 1125899906842624, .int .i64 1] 2)
  have hless := fun W => less_any 5 (some ⟨World.heap W |>.size, 0, none⟩) 1 1 [6] _ rfl (by omega) (rd1Z 6 W)
  rw [val_less] at hless
  have hshare := fun W => share_any 5000 1000 W
  rw [val_share] at hshare
  have htake := fun W => take_fee 1 1000 5000 W
  rw [val_take] at htake
  have hsend := fun W => send_fee 1 1000 5000 W
  rw [val_send] at hsend
  have hroute := fun W => route_any 5000 (some ⟨World.heap W |>.size, 0, none⟩) 2 2 [(0, 0), (1, 1000)] _ rfl (by omega) (rdFees W)
  rw [val_route] at hroute
  have ht1 := fun W (h : Later w W) => text_any 150000000 W (hT.later h)
  have ht2 := fun W (h : Later w W) => text_any 5 W (hT.later h)
  rw [val_text1] at ht1
  rw [val_text2] at ht2
  have hp1 := fun W (h : Later w W) => parse_any [49, 46, 53, 48] W (hT.later h) (by decide)
  have hp2 := fun W (h : Later w W) => parse_any [48, 46, 48, 48, 48, 48, 48, 48, 48, 53] W (hT.later h) (by decide)
  rw [val_parse1] at hp1
  rw [val_parse2] at hp2
  clear hT
  go_enter Tryz.func10, Tryz.ntmps10
  go_upto_region 7 with (first
    | (refine wpList_buildSl rfl 33 2 _ rfl #[(0, .int .i64 _), (1, .int .i64 _)] rfl (build2Z _ _ _) ?_)
    | (refine wpList_buildSl rfl 33 1 _ rfl #[(0, .int .i64 _)] rfl (build1Z _ _) ?_)
    | (go_at_call 16; refine hadd.mono ?_; clear hadd; rintro e w1 ⟨rfl, hL1⟩; have hLa := hL0.step hL1; clear hL0 hL1)
    | (go_at_call 21; refine (hless _).mono ?_; clear hless; rintro e w2 ⟨rfl, hL2⟩; have hLb := (hLa.alloc _).step hL2; clear hLa hL2)
    | (go_at_call 15; refine (hshare _).mono ?_; clear hshare; rintro e w3 ⟨rfl, hL3⟩; have hLc := hLb.step hL3; clear hLb hL3)
    | (go_at_call 5; refine (htake _).mono ?_; clear htake; rintro e w4 ⟨rfl, hL4⟩; have hLd := (hLc.alloc _).step hL4; have hrow := Row.new w3 23 #[.int .i64 1, .int .i64 1000]; have f0 : w4.cell? ⟨w3.heap.size, 0, none⟩ = some (.int .i64 1) := cell_later ((hrow.cell 0).trans rfl) hL4; have f1 : w4.cell? ⟨w3.heap.size, 1, none⟩ = some (.int .i64 1000) := cell_later ((hrow.cell 1).trans rfl) hL4; clear hLc hL4 hrow)
    | (go_at_call 6; refine (hsend _).mono ?_; clear hsend; rintro e w5 ⟨rfl, hL5⟩; have hLe := hLd.step hL5; have g0 : w5.cell? ⟨w3.heap.size, 0, none⟩ = some (.int .i64 1) := cell_later f0 hL5; have g1 : w5.cell? ⟨w3.heap.size, 1, none⟩ = some (.int .i64 1000) := cell_later f1 hL5; clear f0 f1 hLd hL5)
    | fail)
  go_upto_region 8 with (first
    | (refine wpList_buildSl rfl 32 2 _ rfl #[(0, feeV 0 0), (1, feeV 1 1000)] rfl (buildFees _) ?_)
    | (go_at_call 11; refine (hroute _).mono ?_; clear hroute; rintro e w6 ⟨⟨v, rfl, B, c', rfl, hrd⟩, hL6⟩; have hLf := (hLe.alloc _).step hL6; clear g0 g1 hLe hL6)
    | fail)
  go_upto_region 12 with (first
    | (go_at_call 22; refine (ht1 _ hLf).mono ?_; clear ht1; rintro e w7 ⟨rfl, hL7⟩; have hLg := hLf.step hL7; have hrd7 := hrd.later hL7; clear hLf hL7 hrd)
    | (go_at_call 22; refine (ht2 _ hLg).mono ?_; clear ht2; rintro e w8 ⟨rfl, hL8⟩; have hLh := hLg.step hL8; have hrd8 := hrd7.later hL8; clear hLg hL8 hrd7)
    | (go_at_call 23; refine (hp1 _ hLh).mono ?_; clear hp1; rintro e w9 ⟨rfl, hL9⟩; have hLi := hLh.step hL9; have hrd9 := hrd8.later hL9; clear hLh hL9 hrd8)
    | (go_at_call 23; refine (hp2 _ hLi).mono ?_; clear hp2; rintro e wa ⟨rfl, hLA⟩; have hLj := hLi.step hLA; have hrdA := hrd9.later hLA; clear hLi hLA hrd9)
    | fail)
  have hsame := fun W (h : Later wa W) => same_any B (some ⟨W.heap.size, 0, none⟩) 3 3 c' 3 [5006, 5006, 5000] [5006, 5006, 5000] (W.alloc (.cells #[.int .i64 5006, .int .i64 5006, .int .i64 5000] 2)) rfl rfl (by omega) (by omega) ((hrdA.later h).later ((Later.refl W).alloc _)) (rd3Z _ _ _ W)
  rw [show decide ([(5006 : Int), 5006, 5000] = [5006, 5006, 5000]) = true from rfl] at hsame
  clear hrdA
  go_wp2_with (first
    | (go_at_call 9; refine (num5_any _ _).mono ?_; rintro e wb ⟨rfl, rfl⟩)
    | (refine wpList_buildSl rfl 33 3 _ rfl #[(0, .int .i64 _), (1, .int .i64 _), (2, .int .i64 _)] rfl (build3Z _ _ _ _) ?_)
    | (go_at_call 13; refine (hsame wa (Later.refl _)).mono ?_; clear hsame; rintro e wc ⟨rfl, hLC⟩; have hLk := (hLj.alloc _).step hLC; clear hLj hLC)
    | fail)
  exact HΦ.out _ _ ⟨rfl, hLk⟩
end Go.Proofs.YtcfhhljjknmniaaGreatDoor
