/- HmacPlays: the walk. -/
import Derived.Test.YtbjclmfhmdalkaaHp3
set_option linter.unusedVariables false
set_option linter.unusedSimpArgs false
namespace Go.Proofs.Ytbjclmfhmdalkaa
open Go.RowKit Go.ChangeShapes Go.WideShapes Go.ChangeAt
theorem tagMac_none2 (pv : Option Addr) (w : World) (hno : NoMac w pv) : Calls Try.prog 21 #[.pointer pv] w fun e w' => e = .returned (.agg (hC [])) ∧ Below w.heap.size w w' := (tagMac_none pv w hno).mono fun e w' h => ⟨h.2, h.1⟩
theorem subI0 (W : World) : (binOp .sub 3 (.int .i64 1) (.int .i64 0)).run Try.prog W = .ok (.int .i64 1) W := by go_simp; rfl
theorem subI1 (W : World) : (binOp .sub 3 (.int .i64 1) (.int .i64 1)).run Try.prog W = .ok (.int .i64 0) W := by go_simp; rfl
theorem buildHZ (W : World) : (Instr.build 25 #[]).run Try.prog W = .ok (.agg (hC [])) W := by kernel_rfl
theorem eqlHZ (W : World) : (binOp .eql 25 (.agg (hC [])) (.agg (hC []))).run Try.prog W = .ok (.bool true) W := by kernel_rfl
set_option maxRecDepth 100000 in
theorem plays_out (A1 : Option Addr) (n1 c1 : Nat) (A2 : Option Addr) (n2 c2 : Nat) (B : Option Addr) (m cb : Nat) (w : World) (hout : 200 < n1 ∨ 200 < n2 ∨ 20 < m) :
    Calls Try.prog 8 #[.slice A1 n1 c1, .slice A2 n2 c2, .slice B m cb] w fun e w' => e = .returned (.bool true) ∧ Below w.heap.size w w' := by
  by_cases h1 : 200 < n1
  · have e1 : decide ((200 : Int) < (n1 : Int)) = true := decide_eq_true (by omega)
    go_enter Try.func8, Try.ntmps8
    go_wp2_with (first
      | (go_at_call 10; refine (works2_yes _).mono ?_; rintro e w' ⟨rfl, hb⟩)
      | fail)
    go_ret
    exact ⟨rfl, hb⟩
  · have e1 : decide ((200 : Int) < (n1 : Int)) = false := decide_eq_false (by omega)
    by_cases h2 : 200 < n2
    · have e2 : decide ((200 : Int) < (n2 : Int)) = true := decide_eq_true (by omega)
      go_enter Try.func8, Try.ntmps8
      go_wp2_with (first
        | (go_at_call 10; refine (works2_yes _).mono ?_; rintro e w' ⟨rfl, hb⟩)
        | fail)
      go_ret
      exact ⟨rfl, hb⟩
    · have e2 : decide ((200 : Int) < (n2 : Int)) = false := decide_eq_false (by omega)
      have e3 : decide ((20 : Int) < (m : Int)) = true := decide_eq_true (by omega)
      go_enter Try.func8, Try.ntmps8
      go_wp2_with (first
        | (go_at_call 10; refine (works2_yes _).mono ?_; rintro e w' ⟨rfl, hb⟩)
        | fail)
      go_ret
      exact ⟨rfl, hb⟩
set_option maxRecDepth 100000 in
set_option maxHeartbeats 4000000 in
theorem plays_main (A1 : Option Addr) (n1 c1 : Nat) (one : List UInt8) (A2 : Option Addr) (n2 c2 : Nat) (two : List UInt8) (B : Option Addr) (m cb : Nat) (xs : List PActL) (w : World) (hn1 : one.length = n1) (hc1 : n1 ≤ c1) (hm1 : c1 ≤ maxLen) (hr1 : Rd w A1 one) (hb1 : n1 ≤ 200)
    (hn2 : two.length = n2) (hc2 : n2 ≤ c2) (hm2 : c2 ≤ maxLen) (hr2 : Rd w A2 two) (hb2 : n2 ≤ 200) (hxs : xs.length = m) (hmb : m ≤ 20) (hcb : m ≤ cb) (hmcb : cb ≤ maxLen) (hrx : PActs w B xs) :
    Calls Try.prog 8 #[.slice A1 n1 c1, .slice A2 n2 c2, .slice B m cb] w fun e w' => e = .returned (.bool true) ∧ Below w.heap.size w w' := by
  refine Calls.post fun Φ HΦ => ?_
  have e1 : decide ((200 : Int) < (n1 : Int)) = false := decide_eq_false (by omega)
  have e2 : decide ((200 : Int) < (n2 : Int)) = false := decide_eq_false (by omega)
  have e3 : decide ((20 : Int) < (m : Int)) = false := decide_eq_false (by omega)
  have HN1 := Lib.hid hn1
  have HN2 := Lib.hid hn2
  have HXS := Lib.hid hxs
  clear hn1 hn2 hxs
  unfold maxLen at hm1 hm2 hmcb
  have hr1a := hr1.later ((Later.refl w).alloc (.cells #[] 5))
  go_enter Try.func8, Try.ntmps8
  go_upto_region 4 with (first
    | (refine wpList_buildSl rfl 22 0 _ rfl #[] rfl (run_void _) ?_)
    | (at_builtin; refine wpList_append_bytes rfl (.tmp 29) (.tmp 30) 22 rfl w.heap.size 5 Try.underlying22 byteInfo8 _ [] rfl (own_void w _ _ (Nat.le_refl _)) A1 n1 c1 one rfl HN1.out hr1a (by simp; omega) (by simp only [World.size_alloc]; omega) ?_; intro v6 w6 hown6 hg6 hat6; rw [List.nil_append] at hown6; obtain ⟨A6, c6, e6, hc6, hcm6, hrd6⟩ := hown6.slice; rw [HN1.out] at e6 hc6; subst e6)
    | fail)
  have hL6 : Later w w6 := ((Later.refl w).alloc (.cells #[] 5)).grown hg6 (by simp) (fun j e => by cases e; exact Nat.le_refl _)
  have hat6' := fun k e => hown6.at_ k e
  have hx6 := hown6.xrow
  rw [HN1.out] at hx6
  have hnw1 := newMac_any A6 n1 c6 one w6 HN1.out hc6 hcm6 (by omega) hrd6
  have hr26 := hr2.later hL6
  have hnw2 := fun W (hL : Later w6 W) => newMac_any A2 n2 c2 two W HN2.out hc2 hm2 (by omega) (hr26.later hL)
  have HG6 := Lib.hid hg6
  have HAT6 := Lib.hid hat6'
  clear hg6 hat6 hat6' hown6 hrd6 hr1a
  go_upto_region 5 with (first
    | (go_at_call 18; refine hnw1.mono ?_; clear hnw1; rintro e w7 ⟨g0, r0, rfl, hmac07, hg07, hr07, hL67⟩; have hnw3 := hnw2 _ hL67; clear hnw2)
    | (go_at_call 18; refine hnw3.mono ?_; clear hnw3; rintro e w8 ⟨g1, r1, rfl, hmac18, hg18, hr18, hL78⟩)
    | (refine wpList_buildSl rfl 55 2 _ rfl #[(0, ptrV g0), (1, ptrV g1)] rfl (buildM2 g0 g1 _) ?_)
    | fail)
  have k9 := Row.new w8 46 #[ptrV g0, ptrV g1]
  have hL89 := (Later.refl w8).alloc (.cells #[ptrV g0, ptrV g1] 46)
  have hs67 := hL67.size
  have hs78 := hL78.size
  have hs6 := hL6.size
  have hx9 := ((hx6.below hL67).below hL78).below hL89
  have hL9 := ((hL6.step hL67).step hL78).step hL89
  have hmac09 := (hmac07.later hL78).later hL89
  have hmac19 := hmac18.later hL89
  have hg0l := hmac07.row.lt
  have hr0l := hmac07.run.lt
  have hg1l := hmac18.row.lt
  have hr1l := hmac18.run.lt
  have hne01 : r0 ≠ r1 := by omega
  have hne0 : g0 ≠ r1 := by omega
  have hne1 : g1 ≠ r0 := by omega
  obtain ⟨gm, hgm⟩ : ∃ q, q = w8.heap.size := ⟨_, rfl⟩
  have hs89 := hL89.size
  rw [← hgm] at k9 ⊢
  have hml := k9.lt
  have HGM := Lib.hid hgm
  clear hgm hx6 hL89 hL78 hL67 hmac07 hmac18 hL6
  generalize w8.alloc (.cells #[ptrV g0, ptrV g1] 46) = w9 at *
  go_wp2_with fail
  go_loopw [9] (fun t wr => ∃ j : Nat, j ≤ n1 ∧ t = .int .i64 j ∧ XRow 5 wr w.heap.size (.slice A6 n1 c6) n1 ∧ Same (fun k => k < w9.heap.size ∧ some k ≠ (Value.slice A6 n1 c6).ownBlock) w9 wr) (fun t _ => n1 - (intOf t).toNat)
  case atStart => exact ⟨0, by omega, rfl, hx9, Same.refl _ _⟩
  case round =>
    clear hx9
    obtain ⟨j, hj, rfl, hx, hsr⟩ := hrel
    by_cases hlt9 : j < n1
    · have hd : decide ((j : Int) < (n1 : Int)) = true := decide_eq_true (by omega)
      have hd' : decide (j < n1) = true := decide_eq_true hlt9
      rcases hx with hx | ⟨g4, cap4, cs, e4, hg4, hrow4, hsz4, hcs4⟩
      · omega
      · injection e4 with e4 _ e5
        subst e4
        obtain ⟨y, hy⟩ := hcs4 j hlt9
        have hc4 : wr.cell? ⟨g4, j, none⟩ = some (.int .u8 (y.toNat : Int)) := (hrow4.cell j).trans hy
        have hf4 := hrow4.frozen j
        have hy8 := y.toNat_lt
        have HCS := Lib.hid hcs4
        clear hy hcs4
        go_wp2_with fail
        go_roundw
        case rel =>
          refine ⟨j + 1, by omega, by go_num, .inr ⟨g4, cap4, _, by rw [e5], hg4, hrow4.set j _, by simpa using hsz4, ?_⟩, hsr.trans ((Same.set wr ⟨g4, j, none⟩ _).mono fun k hk e => hk.2 (congrArg some e))⟩
          intro k hk
          by_cases e : j = k
          · subst e
            refine ⟨UInt8.ofNat (y.toNat + 1), ?_⟩
            rw [Array.getElem?_setIfInBounds_self, if_pos (by omega), byteV, UInt8.toNat_ofNat']
            congr 2
          · rw [Array.getElem?_setIfInBounds_ne e]
            exact HCS.out k hk
        case measure => simp [intOf]; omega
    · obtain rfl : j = n1 := by omega
      have hd : decide ((j : Int) < (j : Int)) = false := decide_eq_false (by omega)
      have hd' : decide (j < j) = false := decide_eq_false (by omega)
      have hLr : Later w wr := later_of_sameN hL9 (fun k e => (HAT6.out k e).1) hsr
      have hmem : ∀ k, w6.heap.size ≤ k → k < w9.heap.size → k < w9.heap.size ∧ some k ≠ (Value.slice A6 j c6).ownBlock := fun k h1 h2 => ⟨h2, fun e => by have := (HAT6.out k e.symm).2; omega⟩
      have kmr := k9.same hsr (hmem gm (by have := HGM.out; omega) hml)
      have hmac0r := hmac09.same hsr (hmem g0 (by omega) (by omega)) (hmem r0 (by omega) (by omega))
      have hmac1r := hmac19.same hsr (hmem g1 (by omega) (by omega)) (hmem r1 (by omega) (by omega))
      have hsr' := hsr.size
      have HGB := Lib.hid (show w.heap.size ≤ gm ∧ w.heap.size ≤ r0 ∧ w.heap.size ≤ r1 ∧ g0 ≠ gm ∧ g1 ≠ gm ∧ r0 ≠ gm ∧ r1 ≠ gm ∧ gm < wr.heap.size ∧ g0 < wr.heap.size ∧ g1 < wr.heap.size ∧ r0 < wr.heap.size ∧ r1 < wr.heap.size by have := HGM.out; omega)
      have HNE := Lib.hid (And.intro hne01 (And.intro hne0 hne1))
      clear hx hsr k9 hmac09 hmac19 hL9 hmem hsr' hne01 hne0 hne1
      go_upto_region 11 with (first
        | (with_reducible refine wpList_alloc rfl 56 rfl (allocK2 _) ?_)
        | (refine wpList_build2 rfl 56 0 1 (.tmp 49) (.tmp 50) rfl (.slice A1 j c1) (.slice A2 n2 c2) rfl rfl (buildK2 _ _ _ _ _ _ _) ?_)
        | (refine wpList_store rfl 56 (.tmp 10) (.tmp 51) rfl (.pointer (some ⟨wr.heap.size, 0, none⟩)) (.agg #[.slice A1 j c1, .slice A2 n2 c2]) rfl rfl (storeK2 _ _ _ _ _ _ _) ?_)
        | fail)
      have kk := Row.new wr 56 #[.slice A1 j c1, .slice A2 n2 c2]
      have ka := Row.new (wr.alloc (.cells #[.slice A1 j c1, .slice A2 n2 c2] 56)) 56 nilK2
      have hLk := (Later.refl wr).alloc (.cells #[.slice A1 j c1, .slice A2 n2 c2] 56)
      have hLa := (Later.refl (wr.alloc (.cells #[.slice A1 j c1, .slice A2 n2 c2] 56))).alloc (.cells nilK2 56)
      have kk2 := kk.later hLa
      have hLka := hLk.step hLa
      have hLwa := hLr.step hLka
      have hmac0a := hmac0r.later hLka
      have hmac1a := hmac1r.later hLka
      have kma := kmr.later hLka
      obtain ⟨gk, hgk⟩ : ∃ q, q = wr.heap.size := ⟨_, rfl⟩
      obtain ⟨ga, hga⟩ : ∃ q, q = (wr.alloc (.cells #[.slice A1 j c1, .slice A2 n2 c2] 56)).heap.size := ⟨_, rfl⟩
      have hga2 : ga = wr.heap.size + 1 := by rw [hga]; simp
      rw [← hga] at ka ⊢
      rw [← hgk] at kk2 ⊢
      have HI : ∃ (g r : Nat → Nat) (K : Nat → Option Addr) (kc : Nat → Nat) (key : Nat → List UInt8) (M : Nat → Option Addr) (mc : Nat → Nat) (msg : Nat → List UInt8), Two w ((wr.alloc (.cells #[.slice A1 j c1, .slice A2 n2 c2] 56)).alloc (.cells nilK2 56)) gm gk ga g r K kc key M mc msg msg ∧ ∀ k, k < 2 → (msg k).length ≤ 200 * 0 := by
        obtain ⟨b1, b2, b3, b4, b5, b6, b7, b8, b9, b10, b11, b12⟩ := HGB.out
        obtain ⟨x1, x2, x3⟩ := HNE.out
        have hsl := hLr.size
        refine ⟨fun i => if i = 0 then g0 else g1, fun i => if i = 0 then r0 else r1, fun i => if i = 0 then A1 else A2, fun i => if i = 0 then c1 else c2, fun i => if i = 0 then one else two, fun _ => none, fun _ => 0, fun _ => [], ⟨hLwa, b1, by omega, by omega, by omega, by omega, by omega, kma, ?_, ka, ?_, ?_, ?_, ?_, ?_, ?_, ?_, ?_, ?_⟩, fun _ _ => by simp⟩
        · show Row _ gk _ #[.slice A1 one.length c1, .slice A2 two.length c2]
          rw [HN1.out, HN2.out]
          exact kk2
        · intro i hi
          match i, hi with
          | 0, _ => exact ⟨hr1, by show one.length ≤ c1; rw [HN1.out]; exact hc1, hm1⟩
          | 1, _ => exact ⟨hr2, by show two.length ≤ c2; rw [HN2.out]; exact hc2, hm2⟩
        · intro i hi
          match i, hi with
          | 0, _ => show one.length ≤ 200; rw [HN1.out]; exact hb1
          | 1, _ => show two.length ≤ 200; rw [HN2.out]; exact hb2
        · intro i hi
          match i, hi with
          | 0, _ => exact hmac0a
          | 1, _ => exact hmac1a
        · intro i hi
          exact ⟨fun h => absurd rfl h, Nat.le_refl _, Nat.zero_le _⟩
        · intro i hi
          match i, hi with
          | 0, _ => exact ⟨b4, by show g0 ≠ gk; omega, by show g0 ≠ ga; omega⟩
          | 1, _ => exact ⟨b5, by show g1 ≠ gk; omega, by show g1 ≠ ga; omega⟩
        · intro i hi
          match i, hi with
          | 0, _ => exact ⟨b2, b6, by show r0 ≠ gk; omega, by show r0 ≠ ga; omega⟩
          | 1, _ => exact ⟨b3, b7, by show r1 ≠ gk; omega, by show r1 ≠ ga; omega⟩
        · intro i k hi hk hik
          match i, hi, k, hk with
          | 0, _, 0, _ => exact absurd rfl hik
          | 0, _, 1, _ => exact x1
          | 1, _, 0, _ => exact fun e => x1 e.symm
          | 1, _, 1, _ => exact absurd rfl hik
        · intro i k hi hk
          match i, hi, k, hk with
          | 0, _, 0, _ => exact hmac0a.ne
          | 0, _, 1, _ => exact x2
          | 1, _, 0, _ => exact x3
          | 1, _, 1, _ => exact hmac1a.ne
        · intro i hi b o e hne
          exact absurd rfl hne
      clear kk ka kk2 hLk hLa hLka hLwa hmac0a hmac1a kma hmac0r hmac1r kmr hgk hga hga2 hLr
      generalize (wr.alloc (.cells #[.slice A1 j c1, .slice A2 n2 c2] 56)).alloc (.cells nilK2 56) = w10 at *
      clear HGB HNE HGM HG6 HAT6
      simp only [Act.put, List.setIfInBounds_toArray, List.set_cons_succ, List.set_cons_zero]
      go_wp2_with fail
      go_loopw [12] (fun t wx => ∃ (i : Nat) (g r : Nat → Nat) (K : Nat → Option Addr) (kc : Nat → Nat) (key : Nat → List UInt8) (M : Nat → Option Addr) (mc : Nat → Nat) (msg : Nat → List UInt8), i ≤ m ∧ t = .int .i64 i ∧ Two w wx gm gk ga g r K kc key M mc msg msg ∧ ∀ k, k < 2 → (msg k).length ≤ 200 * i) (fun t _ => m - (intOf t).toNat)
      case atStart =>
        obtain ⟨g, r, K, kc, key, M, mc, msg, h1, h2⟩ := HI
        exact ⟨0, g, r, K, kc, key, M, mc, msg, by omega, rfl, h1, h2⟩
      case round =>
        clear HI
        obtain ⟨i, g, r, K, kc, key, M, mc, msg, him, rfl, hT, hml⟩ := hrel
        by_cases hlt : i < m
        · have hd : decide ((i : Int) < (m : Int)) = true := decide_eq_true (by omega)
          have hd' : decide (i < m) = true := decide_eq_true hlt
          have hil : i < xs.length := by rw [HXS.out]; exact hlt
          obtain ⟨b, o, rfl, hat⟩ := hrx (by intro e; rw [e] at hil; exact absurd hil (by simp))
          obtain ⟨A', c', hrng, hok⟩ := hat i hil
          obtain ⟨⟨what, two?, bs⟩, hxe⟩ : ∃ x, xs[i] = x := ⟨_, rfl⟩
          rw [hxe] at hrng hok
          obtain ⟨n', hn'⟩ : ∃ q, bs.length = q := ⟨_, rfl⟩
          have hLx := hT.later
          have q0 := (hLx.cell (hrng 0 _ rfl))
          have q1 := (hLx.cell (hrng 1 _ rfl))
          have q2 := (hLx.cell (hrng 2 _ rfl))
          rw [hn'] at q2
          rw [Nat.add_zero] at q0
          have hnc : n' ≤ c' := by rw [← hn']; exact hok.n1
          have hcm : c' ≤ 9223372036854775807 := hok.m1
          have hrb0 := hok.r1
          have hrb := hok.r1.later hLx
          have p2 := hrng 2 _ rfl
          rw [hn'] at p2
          have hnb : ∀ k, w.heap.size ≤ k → ∀ ad, A' = some ad → bs ≠ [] → ad.block ≠ k := fun k hk ad e hne e2 => by
            obtain ⟨b2, o2, e3, hc⟩ := hok.r1 hne
            rw [e] at e3
            cases e3
            have := block_lt_of_cell (hc 0 (List.length_pos_iff.2 hne))
            simp only at this e2
            omega
          by_cases hbl : 200 < n'
          · have hd2 : decide ((200 : Int) < (n' : Int)) = true := decide_eq_true (by omega)
            clear hn' hxe hrng hat hok hnb
            go_wp2_with (first
              | (go_at_call 10; refine (works2_yes _).mono ?_; rintro e w' ⟨rfl, hb⟩)
              | fail)
            exact HΦ.out _ _ ⟨rfl, hLx.step hb⟩
          · have hd2 : decide ((200 : Int) < (n' : Int)) = false := decide_eq_false (by omega)
            clear hxe hrng hat hok
            have HN' := Lib.hid hn'
            have HRB := Lib.hid hrb0
            clear hn'
            have HNB := Lib.hid hnb
            clear hnb
            cases two? with
            | false =>
              by_cases hw0 : what = 0
              · subst hw0
                go_upto_region 22 with fail
                refine (wpIn_wide (n := 0)).1 ?_
                refine wpIn_region_pivot wide_wide 9 [.slice (some ⟨gm, 0, none⟩) 2 2, .int .i64 0, .pointer (some ⟨gm, 0, none⟩), .pointer (some ⟨g 0, 0, none⟩), .slice (some ⟨b, o, none⟩) m cb, .int .i64 (i : Int), .pointer (some ⟨b, o + i * 3, none⟩), .pointer (some ⟨b, o + i * 3 + 2, none⟩), .slice A' n' c', undef, .int .i64 0] (fun W => Later wr W) (fun y W => y = .int .i64 0 ∧ Two w W gm gk ga g r K kc key M mc (up msg 0 (msg 0 ++ bs)) msg) (fun W W' h k => k.step h) (fun y W W' h k => ⟨k.1, k.2.step h⟩) (Later.refl _) (by kernel_rfl) (by kernel_rfl) (by kernel_rfl) (by kernel_rfl) (by kernel_rfl) (by kernel_rfl) rfl (by kernel_rfl) (by kernel_rfl) ⟨?_, ?_, ?_, ?_, ?_, ?_, ?_, ?_, ?_, ?_, ?_, trivial⟩ ?_
                · exact fun ac W dd xx he => stepOk_want rfl (op_move rfl (he.keep (.tmp 8) (by kernel_rfl)))
                · exact fun ac W dd xx he => stepOk_want rfl (op_move rfl (he.keep (.tmp 13) (by kernel_rfl)))
                · exact fun ac W dd xx he => stepOk_want rfl (op_idx rfl (show ac.eval (.tmp 99) = .slice (some ⟨gm, 0, none⟩) 2 2 from he.val 0 99 (by kernel_rfl) rfl rfl) (show ac.eval (.tmp 100) = .int .i64 0 from he.val 1 100 (by kernel_rfl) rfl rfl) (idxM0 gm W) rfl)
                · exact fun ac W dd xx he => stepOk_want rfl (op_load rfl (show ac.eval (.tmp 101) = .pointer (some ⟨gm, 0, none⟩) from he.val 2 101 (by kernel_rfl) rfl rfl) (loadM (he.both (C := fun W => W.cell? ⟨gm, 0, none⟩ = some (.pointer (some ⟨g 0, 0, none⟩))) (fun W h => ((hT.step h).rm.cell 0).trans rfl) (fun y W h => (h.2.rm.cell 0).trans rfl))) rfl)
                · exact fun ac W dd xx he => stepOk_want rfl (op_move rfl (he.keep (.tmp 2) (by kernel_rfl)))
                · exact fun ac W dd xx he => stepOk_want rfl (op_move rfl (he.keep (.tmp 12) (by kernel_rfl)))
                · exact fun ac W dd xx he => stepOk_want rfl (op_idx rfl (show ac.eval (.tmp 103) = .slice (some ⟨b, o, none⟩) m cb from he.val 4 103 (by kernel_rfl) rfl rfl) (show ac.eval (.tmp 104) = .int .i64 (i : Int) from he.val 5 104 (by kernel_rfl) rfl rfl) (idxPAct hlt) rfl)
                · exact fun ac W dd xx he => stepOk_want rfl (op_fieldAddr rfl (show ac.eval (.tmp 105) = .pointer (some ⟨b, o + i * 3, none⟩) from he.val 6 105 (by kernel_rfl) rfl rfl) fieldP2 rfl)
                · exact fun ac W dd xx he => stepOk_want rfl (op_load rfl (show ac.eval (.tmp 106) = .pointer (some ⟨b, o + i * 3 + 2, none⟩) from he.val 7 106 (by kernel_rfl) rfl rfl) (loadB (he.both (C := fun W => W.cell? ⟨b, o + i * 3 + 2, none⟩ = some (.slice A' n' c')) (fun W h => h.cell q2) (fun y W h => h.2.later.cell p2))) rfl)
                · intro ac W he hA; refine ⟨rfl, ?_⟩; have e102 := (show ac.eval (.tmp 102) = .pointer (some ⟨g 0, 0, none⟩) from he.val 3 102 (by kernel_rfl) rfl rfl); have e107 := (show ac.eval (.tmp 107) = .slice A' n' c' from he.val 8 107 (by kernel_rfl) rfl rfl); exact op_callFK (vs := #[.pointer (some ⟨g 0, 0, none⟩), .slice A' n' c']) rfl (by simp only [List.map_toArray, List.map_cons, List.map_nil, e102, e107]) (enters_of Try.func19 (by kernel_rfl) rfl) ((writeMac_any (g 0) (r 0) (key 0) (msg 0) A' n' c' bs W ((hT.step hA).mac 0 (by decide)) HN'.out hnc hcm (hrb.later hA) (HNB.out _ (hT.nr 0 (by decide)).1) (by have := hml 0 (by decide); omega)).mono fun e W' ⟨he', hm, hg⟩ => ⟨_, he', _, rfl, rfl, (hT.step hA).write 0 (by decide) hg hm⟩)
                · intro ac W dd xx he; refine stepOk_want rfl ?_; have hB := he.behind (he.waits (by kernel_rfl)); have e0 : ac.eval (.tmp 108) = .int .i64 0 := (he.piv 108 (by kernel_rfl) rfl).trans hB.1; exact op_callF (vs := #[.int .i64 0]) rfl (by simp only [List.map_toArray, List.map_cons, List.map_nil, e0]) (enters_of Try.func15 (by kernel_rfl) rfl) ((num2_any 0 W).mono fun e W' ⟨he', hw'⟩ => ⟨_, he', hw' ▸ Later.refl _, rfl⟩)
                · intro ys W y hB hx hk hg
                  have e10 := hg 10 109 (by decide) (by kernel_rfl)
                  rw [hx 10 (by decide)] at e10
                  refine last_binOp (v := .bool false) rfl e10 rfl eqgI (neqI_me _ _ _) ?_
                  obtain ⟨_, hT4⟩ := hB
                  clear hx hk hg e10 q0 q1 hT hLx
                  simp only [initL, lastL, putL, Nat.reduceAdd, Act.put, List.setIfInBounds_toArray, List.set_cons_succ, List.set_cons_zero]
                  generalize hW4 : W = w4 at *
                  clear hW4
                  go_upto_region 24 with fail
                  refine (wpIn_wide (n := 0)).1 ?_
                  refine wpIn_region_lastY wide_wide (InvA w4 [some (.int .i64 0), none, some (.int .i64 0), some (.pointer (some ⟨ga, 0, none⟩)), some (.slice (M 0) (msg 0).length (mc 0)), none, some (.slice (some ⟨b, o, none⟩) m cb), some (.int .i64 (i : Int)), some (.pointer (some ⟨b, o + i * 3, none⟩)), some (.pointer (some ⟨b, o + i * 3 + 2, none⟩)), some (Value.slice A' n' c'), none, some (.pointer (some ⟨ga, 0, none⟩))] (msg 0) bs) ⟨(Later.refl w4).drew, Tab.nil _ _, (fun h => by cases h), (fun h => by cases h), (fun h => by cases h), (fun h => by cases h)⟩ (by kernel_rfl) (by kernel_rfl) (by kernel_rfl) (by kernel_rfl) (by kernel_rfl) (by kernel_rfl) rfl ⟨?_, ?_, ?_, ?_, ?_, ?_, ?_, ?_, ?_, ?_, ?_, ?_, ?_, trivial⟩ ?_
                  · intro a W f ys hI he
                    refine stepOkY_later rfl ?_ (op_move (R := fun v W' => v = .int .i64 0) rfl (he.keep (.tmp 13) (by kernel_rfl)))
                    rintro v W' hL rfl
                    exact hI.pure hL 0 _ (by decide) (by decide) (by decide) (fun v e => Option.some.inj (Option.some.inj e))
                  · intro a W f ys hI he
                    refine stepOkY_later rfl ?_ (op_buildSlice (vs := #[]) (R := fun v W' => Own 5 W' w4.heap.size v []) rfl (by simp) (run_void W) ((Later.refl W).alloc _) (own_void W _ _ hI.later.size))
                    intro v W' hL ho
                    exact hI.one hL rfl ho
                  · intro a W f ys hI he
                    refine stepOkY_later rfl ?_ (op_move (R := fun v W' => v = .int .i64 0) rfl (he.keep (.tmp 13) (by kernel_rfl)))
                    rintro v W' hL rfl
                    exact hI.pure hL 2 _ (by decide) (by decide) (by decide) (fun v e => Option.some.inj (Option.some.inj e))
                  · intro a W f ys hI he
                    refine stepOkY_later rfl ?_ (op_idx (R := fun v W' => v = .pointer (some ⟨ga, 0, none⟩)) rfl (he.keep (.tmp 11) (by kernel_rfl)) ((he.val 2 113 (by kernel_rfl) rfl).trans (hI.tab 2 _ rfl (he.done 2 (by kernel_rfl)))) (idxK0 ga W) rfl)
                    rintro v W' hL rfl
                    exact hI.pure hL 3 _ (by decide) (by decide) (by decide) (fun v e => Option.some.inj (Option.some.inj e))
                  · intro a W f ys hI he
                    refine stepOkY_later rfl ?_ (op_load (R := fun v W' => v = .slice (M 0) (msg 0).length (mc 0)) rfl ((he.val 3 114 (by kernel_rfl) rfl).trans (hI.tab 3 _ rfl (he.done 3 (by kernel_rfl)))) (loadB (((hT4.step hI.later).ra.cell 0).trans rfl)) rfl)
                    rintro v W' hL rfl
                    exact hI.pure hL 4 _ (by decide) (by decide) (by decide) (fun v e => Option.some.inj (Option.some.inj e))
                  · intro a W f ys hI he
                    have ho := hI.o1 (he.done 1 (by kernel_rfl)) he.todo
                    have e112 : a.eval (.tmp 112) = ys 1 := he.val 1 112 (by kernel_rfl) rfl
                    have e115 : a.eval (.tmp 115) = .slice (M 0) (msg 0).length (mc 0) := ((he.val 4 115 (by kernel_rfl) rfl).trans (hI.tab 4 _ rfl (he.done 4 (by kernel_rfl))))
                    have hmr := (hT4.step hI.later).mr 0 (by decide)
                    exact stepOkY_want rfl (op_append_bytes (.tmp 112) (.tmp 115) 22 rfl w4.heap.size 5 Try.underlying22 byteInfo8 (ys 1) [] e112 ho (M 0) _ (mc 0) (msg 0) e115 rfl hmr.rd (by have := hml 0 (by decide); simp only [List.length_nil]; omega) hI.later.size (fun v' w' h1 h2 h3 => ⟨v', rfl, hI.five ho h2 rfl he.todo h1⟩))
                  · intro a W f ys hI he
                    refine stepOkY_later rfl ?_ (op_move (R := fun v W' => v = .slice (some ⟨b, o, none⟩) m cb) rfl (he.keep (.tmp 2) (by kernel_rfl)))
                    rintro v W' hL rfl
                    exact hI.pure hL 6 _ (by decide) (by decide) (by decide) (fun v e => Option.some.inj (Option.some.inj e))
                  · intro a W f ys hI he
                    refine stepOkY_later rfl ?_ (op_move (R := fun v W' => v = .int .i64 (i : Int)) rfl (he.keep (.tmp 12) (by kernel_rfl)))
                    rintro v W' hL rfl
                    exact hI.pure hL 7 _ (by decide) (by decide) (by decide) (fun v e => Option.some.inj (Option.some.inj e))
                  · intro a W f ys hI he
                    refine stepOkY_later rfl ?_ (op_idx (R := fun v W' => v = .pointer (some ⟨b, o + i * 3, none⟩)) rfl ((he.val 6 117 (by kernel_rfl) rfl).trans (hI.tab 6 _ rfl (he.done 6 (by kernel_rfl)))) ((he.val 7 118 (by kernel_rfl) rfl).trans (hI.tab 7 _ rfl (he.done 7 (by kernel_rfl)))) (idxPAct hlt) rfl)
                    rintro v W' hL rfl
                    exact hI.pure hL 8 _ (by decide) (by decide) (by decide) (fun v e => Option.some.inj (Option.some.inj e))
                  · intro a W f ys hI he
                    refine stepOkY_later rfl ?_ (op_fieldAddr (R := fun v W' => v = .pointer (some ⟨b, o + i * 3 + 2, none⟩)) rfl ((he.val 8 119 (by kernel_rfl) rfl).trans (hI.tab 8 _ rfl (he.done 8 (by kernel_rfl)))) fieldP2 rfl)
                    rintro v W' hL rfl
                    exact hI.pure hL 9 _ (by decide) (by decide) (by decide) (fun v e => Option.some.inj (Option.some.inj e))
                  · intro a W f ys hI he
                    refine stepOkY_later rfl ?_ (op_load (R := fun v W' => v = Value.slice A' n' c') rfl ((he.val 9 120 (by kernel_rfl) rfl).trans (hI.tab 9 _ rfl (he.done 9 (by kernel_rfl)))) (loadB ((hT4.step hI.later).later.cell p2)) rfl)
                    rintro v W' hL rfl
                    exact hI.pure hL 10 _ (by decide) (by decide) (by decide) (fun v e => Option.some.inj (Option.some.inj e))
                  · intro a W f ys hI he
                    have ho := hI.o5 (he.done 5 (by kernel_rfl)) he.todo
                    have e116 : a.eval (.tmp 116) = ys 5 := he.val 5 116 (by kernel_rfl) rfl
                    have e121 : a.eval (.tmp 121) = .slice A' n' c' := ((he.val 10 121 (by kernel_rfl) rfl).trans (hI.tab 10 _ rfl (he.done 10 (by kernel_rfl))))
                    have hbW := HRB.out.later (hT4.step hI.later).later
                    exact stepOkY_want rfl (op_append_bytes (.tmp 116) (.tmp 121) 22 rfl w4.heap.size 5 Try.underlying22 byteInfo8 (ys 5) (msg 0) e116 ho A' n' c' bs e121 HN'.out hbW (by have := hml 0 (by decide); omega) hI.later.size (fun v' w' h1 h2 h3 => ⟨v', rfl, hI.eleven ho h2 rfl (he.done 5 (by kernel_rfl)) h1⟩))
                  · intro a W f ys hI he
                    refine stepOkY_later rfl ?_ (op_idx (R := fun v W' => v = .pointer (some ⟨ga, 0, none⟩)) rfl (he.keep (.tmp 11) (by kernel_rfl)) ((he.val 0 111 (by kernel_rfl) rfl).trans (hI.tab 0 _ rfl (he.done 0 (by kernel_rfl)))) (idxK0 ga W) rfl)
                    rintro v W' hL rfl
                    exact hI.pure hL 12 _ (by decide) (by decide) (by decide) (fun v e => Option.some.inj (Option.some.inj e))
                  · intro f ys W hI hd _ hk hgt
                    have ho := hI.o11 (hd 11 (by decide))
                    have hat := fun k e => (ho.at_ k e).1
                    obtain ⟨A5, c5, e5, h51, h52, h53⟩ := ho.slice
                    have e122 := hgt 11 122 (by decide) (by kernel_rfl)
                    have e123 := (hgt 12 123 (by decide) (by kernel_rfl)).trans (hI.tab 12 _ rfl (hd 12 (by decide)))
                    rw [e5] at e122 hat
                    have hT5 := hT4.step hI.later
                    have hra := hT5.ra
                    refine last_store rfl rfl e123 e122 (storeB ((hra.cell 0).trans rfl) (hra.frozen 0)) ?_
                    have lm := hT4.rm.lt
                    have lk := hT4.rk.lt
                    have la := hT4.ra.lt
                    have lr := fun i (hi : i < 2) => (hT4.mac i hi).run.lt
                    have hT6 := hT5.all 0 (by decide) ⟨h53, h51, h52⟩ (fun b o e hne => by subst e; have := hat b rfl; exact ⟨by omega, by omega, by omega, fun j hj => by have := lr j hj; omega⟩)
                    rw [List.length_append] at hT6
                    clear hk hgt hd e122 e123 hT5 hT4 hra hI ho hat h53 e5 lm lk la lr
                    simp only [initL, lastL, putL, Nat.reduceAdd, Act.put, List.setIfInBounds_toArray, List.set_cons_succ, List.set_cons_zero]
                    go_wp2_with fail
                    go_roundw
                    case rel => exact ⟨i + 1, g, r, K, kc, key, up M 0 A5, up mc 0 c5, up msg 0 (msg 0 ++ bs), by omega, by go_num, hT6, fun k hk => by
                      by_cases e : k = 0
                      · subst e; rw [up_self, List.length_append, HN'.out]; have := hml 0 (by decide); omega
                      · rw [up_ne _ _ e]; have := hml k hk; omega⟩
                    case measure => simp [intOf]; omega
              · have hd0 : decide (what = 0) = false := decide_eq_false hw0
                by_cases hw1 : what = 1
                · subst hw1
                  go_upto_region 26 with fail
                  refine (wpIn_wide (n := 0)).1 ?_
                  refine wpIn_region_vals wide_wide [Pr.eq (.slice (some ⟨gm, 0, none⟩) 2 2), Pr.eq (.int .i64 0), Pr.eq (.pointer (some ⟨gm, 0, none⟩)), Pr.eq (.pointer (some ⟨g 0, 0, none⟩)), Pr.eq (.agg (hC (Hm.tag (key 0) (msg 0)))), Pr.eq (.int .i64 0), Pr.eq (.pointer (some ⟨gk, 0, none⟩)), Pr.eq (.slice (K 0) (key 0).length (kc 0)), Pr.eq (.int .i64 0), Pr.eq (.pointer (some ⟨ga, 0, none⟩)), Pr.eq (.slice (M 0) (msg 0).length (mc 0)), Pr.eq (.agg (hC (Hm.tag (key 0) (msg 0)))), Pr.eq (.bool false)] (by kernel_rfl) (by kernel_rfl) (by kernel_rfl) (by kernel_rfl) (by kernel_rfl) ⟨?_, ?_, ?_, ?_, ?_, ?_, ?_, ?_, ?_, ?_, ?_, ?_, ?_, trivial⟩ ?_
                  · exact fun ac W hL he => stepOk_want rfl (op_move rfl (he.keep (.tmp 8) (by kernel_rfl)))
                  · exact fun ac W hL he => stepOk_want rfl (op_move rfl (he.keep (.tmp 13) (by kernel_rfl)))
                  · exact fun ac W hL he => stepOk_want rfl (op_idx rfl (he.get 0 126 (by kernel_rfl) rfl) (he.get 1 127 (by kernel_rfl) rfl) (idxM0 gm W) rfl)
                  · exact fun ac W hL he => stepOk_want rfl (op_load rfl (he.get 2 128 (by kernel_rfl) rfl) (loadM (((hT.step hL).rm.cell 0).trans rfl)) rfl)
                  · intro ac W hL he; refine stepOk_want rfl ?_; have e0 : ac.eval (.tmp 129) = .pointer (some ⟨g 0, 0, none⟩) := (he.get 3 129 (by kernel_rfl) rfl); exact op_callF (vs := #[.pointer (some ⟨g 0, 0, none⟩)]) rfl (by simp only [List.map_toArray, List.map_cons, List.map_nil, e0]) (enters_of Try.func21 (by kernel_rfl) rfl) ((macTag_any (g 0) (r 0) (key 0) (msg 0) W ((hT.step hL).mac 0 (by decide)) (by have := hml 0 (by decide); omega)).mono fun e W' ⟨he', hb⟩ => ⟨_, he', hb, rfl⟩)
                  · exact fun ac W hL he => stepOk_want rfl (op_move rfl (he.keep (.tmp 13) (by kernel_rfl)))
                  · exact fun ac W hL he => stepOk_want rfl (op_idx rfl (he.keep (.tmp 10) (by kernel_rfl)) (he.get 5 131 (by kernel_rfl) rfl) (idxK0 gk W) rfl)
                  · exact fun ac W hL he => stepOk_want rfl (op_load rfl (he.get 6 132 (by kernel_rfl) rfl) (loadB (((hT.step hL).rk.cell 0).trans rfl)) rfl)
                  · exact fun ac W hL he => stepOk_want rfl (op_move rfl (he.keep (.tmp 13) (by kernel_rfl)))
                  · exact fun ac W hL he => stepOk_want rfl (op_idx rfl (he.keep (.tmp 11) (by kernel_rfl)) (he.get 8 134 (by kernel_rfl) rfl) (idxK0 ga W) rfl)
                  · exact fun ac W hL he => stepOk_want rfl (op_load rfl (he.get 9 135 (by kernel_rfl) rfl) (loadB (((hT.step hL).ra.cell 0).trans rfl)) rfl)
                  · intro ac W hL he; refine stepOk_want rfl ?_; have e0 : ac.eval (.tmp 133) = .slice (K 0) (key 0).length (kc 0) := (he.get 7 133 (by kernel_rfl) rfl); have e1 : ac.eval (.tmp 136) = .slice (M 0) (msg 0).length (mc 0) := (he.get 10 136 (by kernel_rfl) rfl); exact op_callF (vs := #[.slice (K 0) (key 0).length (kc 0), .slice (M 0) (msg 0).length (mc 0)]) rfl (by simp only [List.map_toArray, List.map_cons, List.map_nil, e0, e1]) (enters_of Try.func11 (by kernel_rfl) rfl) ((refTag_any (K 0) (key 0).length (kc 0) (key 0) (M 0) (msg 0).length (mc 0) (msg 0) W rfl rfl (by have := (hT.step hL).kl 0 (by decide); omega) (by have := hml 0 (by decide); omega) ((hT.step hL).keyAt 0 (by decide)).cap ((hT.step hL).keyAt 0 (by decide)).most ((hT.step hL).keyAt 0 (by decide)).rd ((hT.step hL).mr 0 (by decide)).rd).mono fun e W' ⟨he', hb⟩ => ⟨_, he', hb, rfl⟩)
                  · exact fun ac W hL he => stepOk_want rfl (op_binOp rfl (he.get 4 130 (by kernel_rfl) rfl) (he.get 11 137 (by kernel_rfl) rfl) (eqgHash _ _ _ _ _ W) (neqSame _ (Hm.tag_len _ _) W) rfl)
                  intro zs W9 hL9 hzs
                  have e138 := hzs 12 (by decide)
                  have hT9 := hT.step hL9
                  clear hzs hL9 hT hLx q0 q1 q2
                  simp only [putL, Nat.reduceAdd, Act.put, List.setIfInBounds_toArray, List.set_cons_succ, List.set_cons_zero]
                  rw [e138]
                  go_wp2_with fail
                  go_roundw
                  case rel => exact ⟨i + 1, g, r, K, kc, key, M, mc, msg, by omega, by go_num, hT9, fun k hk => by have := hml k hk; omega⟩
                  case measure => simp [intOf]; omega
                · have hd1 : decide (what = 1) = false := decide_eq_false hw1
                  go_upto_region 20 with fail
                  refine (wpIn_wide (n := 0)).1 ?_
                  have lm := hT.rm.lt
                  have lk := hT.rk.lt
                  have la := hT.ra.lt
                  have hml2 := hml 1 (by decide)
                  refine wpIn_region_lastY wide_wide (InvC wr gm gk (fun x => #[x, ptrV (g 1)]) (fun x => #[x, .slice (K 1) (key 1).length (kc 1)]) [some (.slice (some ⟨gm, 0, none⟩) 2 2), some (.int .i64 0), some (.int .i64 0), some (.int .i64 0), some (.slice (some ⟨gm, 0, none⟩) 2 2), some (.int .i64 0), some (.int .i64 1), some (.pointer (some ⟨gm, 1, none⟩)), some (.pointer (some ⟨g 1, 0, none⟩)), none, some (.int .i64 0), some (.int .i64 1), some (.pointer (some ⟨gk, 1, none⟩)), some (.slice (K 1) (key 1).length (kc 1)), some (.int .i64 0), some (.int .i64 1), some (.pointer (some ⟨ga, 1, none⟩)), some (.slice (M 1) (msg 1).length (mc 1)), some (.pointer (some ⟨gm, 0, none⟩)), none, some (.pointer (some ⟨gk, 0, none⟩)), none, some (.pointer (some ⟨ga, 0, none⟩))] (key 1) (msg 1) (.slice (K 1) (key 1).length (kc 1))) ⟨(Same.of_below ((Later.refl wr).drew)).mono fun k hk => hk.1, Tab.nil _ _, ⟨_, hT.rm.drew, (fun h => by cases h)⟩, ⟨_, hT.rk.drew, (fun h => by cases h)⟩, (fun h => by cases h), (fun h => by cases h)⟩ (by kernel_rfl) (by kernel_rfl) (by kernel_rfl) (by kernel_rfl) (by kernel_rfl) (by kernel_rfl) rfl ⟨?_, ?_, ?_, ?_, ?_, ?_, ?_, ?_, ?_, ?_, ?_, ?_, ?_, ?_, ?_, ?_, ?_, ?_, ?_, ?_, ?_, ?_, ?_, trivial⟩ ?_
                  · intro a W f ys hI he
                    refine stepOkY_later rfl ?_ (op_move (R := fun v W' => v = .slice (some ⟨gm, 0, none⟩) 2 2) rfl (he.keep (.tmp 8) (by kernel_rfl)))
                    rintro v W' hL rfl
                    exact hI.pure hL 0 _ (by decide) (by decide) (by decide) (fun v e => Option.some.inj (Option.some.inj e))
                  · intro a W f ys hI he
                    refine stepOkY_later rfl ?_ (op_move (R := fun v W' => v = .int .i64 0) rfl (he.keep (.tmp 13) (by kernel_rfl)))
                    rintro v W' hL rfl
                    exact hI.pure hL 1 _ (by decide) (by decide) (by decide) (fun v e => Option.some.inj (Option.some.inj e))
                  · intro a W f ys hI he
                    refine stepOkY_later rfl ?_ (op_move (R := fun v W' => v = .int .i64 0) rfl (he.keep (.tmp 13) (by kernel_rfl)))
                    rintro v W' hL rfl
                    exact hI.pure hL 2 _ (by decide) (by decide) (by decide) (fun v e => Option.some.inj (Option.some.inj e))
                  · intro a W f ys hI he
                    refine stepOkY_later rfl ?_ (op_move (R := fun v W' => v = .int .i64 0) rfl (he.keep (.tmp 13) (by kernel_rfl)))
                    rintro v W' hL rfl
                    exact hI.pure hL 3 _ (by decide) (by decide) (by decide) (fun v e => Option.some.inj (Option.some.inj e))
                  · intro a W f ys hI he
                    refine stepOkY_later rfl ?_ (op_move (R := fun v W' => v = .slice (some ⟨gm, 0, none⟩) 2 2) rfl (he.keep (.tmp 8) (by kernel_rfl)))
                    rintro v W' hL rfl
                    exact hI.pure hL 4 _ (by decide) (by decide) (by decide) (fun v e => Option.some.inj (Option.some.inj e))
                  · intro a W f ys hI he
                    refine stepOkY_later rfl ?_ (op_move (R := fun v W' => v = .int .i64 0) rfl (he.keep (.tmp 13) (by kernel_rfl)))
                    rintro v W' hL rfl
                    exact hI.pure hL 5 _ (by decide) (by decide) (by decide) (fun v e => Option.some.inj (Option.some.inj e))
                  · intro a W f ys hI he
                    refine stepOkY_later rfl ?_ (op_binOp (R := fun v W' => v = .int .i64 1) rfl rfl ((he.val 5 81 (by kernel_rfl) rfl).trans (hI.tab 5 _ rfl (he.done 5 (by kernel_rfl)))) eqgI (subI0 W) rfl)
                    rintro v W' hL rfl
                    exact hI.pure hL 6 _ (by decide) (by decide) (by decide) (fun v e => Option.some.inj (Option.some.inj e))
                  · intro a W f ys hI he
                    refine stepOkY_later rfl ?_ (op_idx (R := fun v W' => v = .pointer (some ⟨gm, 1, none⟩)) rfl ((he.val 4 80 (by kernel_rfl) rfl).trans (hI.tab 4 _ rfl (he.done 4 (by kernel_rfl)))) ((he.val 6 82 (by kernel_rfl) rfl).trans (hI.tab 6 _ rfl (he.done 6 (by kernel_rfl)))) (idxM1 gm W) rfl)
                    rintro v W' hL rfl
                    exact hI.pure hL 7 _ (by decide) (by decide) (by decide) (fun v e => Option.some.inj (Option.some.inj e))
                  · intro a W f ys hI he
                    obtain ⟨x, hx, _⟩ := hI.rm
                    refine stepOkY_later rfl ?_ (op_load (R := fun v W' => v = .pointer (some ⟨g 1, 0, none⟩)) rfl ((he.val 7 83 (by kernel_rfl) rfl).trans (hI.tab 7 _ rfl (he.done 7 (by kernel_rfl)))) (loadM ((hx.cell 1).trans rfl)) rfl)
                    rintro v W' hL rfl
                    exact hI.pure hL 8 _ (by decide) (by decide) (by decide) (fun v e => Option.some.inj (Option.some.inj e))
                  · intro a W f ys hI he
                    have e84 : a.eval (.tmp 84) = .pointer (some ⟨g 1, 0, none⟩) := ((he.val 8 84 (by kernel_rfl) rfl).trans (hI.tab 8 _ rfl (he.done 8 (by kernel_rfl))))
                    have hm := (hT.mac 1 (by decide)).same hI.same ⟨(hT.mac 1 (by decide)).row.lt, (hT.ng 1 (by decide)).1, (hT.ng 1 (by decide)).2.1⟩ ⟨(hT.mac 1 (by decide)).run.lt, (hT.nr 1 (by decide)).2.1, (hT.nr 1 (by decide)).2.2.1⟩
                    exact stepOkY_want rfl (op_callFK (vs := #[.pointer (some ⟨g 1, 0, none⟩)]) rfl (by simp only [List.map_toArray, List.map_cons, List.map_nil, e84]) (enters_of Try.func24 (by kernel_rfl) rfl) ((copyMac_any (g 1) (r 1) (key 1) (msg 1) W hm).mono fun e W' ⟨m', r', he', hm', h1, h2, hL⟩ => ⟨_, he', _, rfl, hI.nine hL he.todo rfl hm' h1 h2⟩))
                  · intro a W f ys hI he
                    refine stepOkY_later rfl ?_ (op_move (R := fun v W' => v = .int .i64 0) rfl (he.keep (.tmp 13) (by kernel_rfl)))
                    rintro v W' hL rfl
                    exact hI.pure hL 10 _ (by decide) (by decide) (by decide) (fun v e => Option.some.inj (Option.some.inj e))
                  · intro a W f ys hI he
                    refine stepOkY_later rfl ?_ (op_binOp (R := fun v W' => v = .int .i64 1) rfl rfl ((he.val 10 86 (by kernel_rfl) rfl).trans (hI.tab 10 _ rfl (he.done 10 (by kernel_rfl)))) eqgI (subI0 W) rfl)
                    rintro v W' hL rfl
                    exact hI.pure hL 11 _ (by decide) (by decide) (by decide) (fun v e => Option.some.inj (Option.some.inj e))
                  · intro a W f ys hI he
                    refine stepOkY_later rfl ?_ (op_idx (R := fun v W' => v = .pointer (some ⟨gk, 1, none⟩)) rfl (he.keep (.tmp 10) (by kernel_rfl)) ((he.val 11 87 (by kernel_rfl) rfl).trans (hI.tab 11 _ rfl (he.done 11 (by kernel_rfl)))) (idxK1 gk W) rfl)
                    rintro v W' hL rfl
                    exact hI.pure hL 12 _ (by decide) (by decide) (by decide) (fun v e => Option.some.inj (Option.some.inj e))
                  · intro a W f ys hI he
                    obtain ⟨x, hx, _⟩ := hI.rk
                    refine stepOkY_later rfl ?_ (op_load (R := fun v W' => v = .slice (K 1) (key 1).length (kc 1)) rfl ((he.val 12 88 (by kernel_rfl) rfl).trans (hI.tab 12 _ rfl (he.done 12 (by kernel_rfl)))) (loadB ((hx.cell 1).trans rfl)) rfl)
                    rintro v W' hL rfl
                    exact hI.pure hL 13 _ (by decide) (by decide) (by decide) (fun v e => Option.some.inj (Option.some.inj e))
                  · intro a W f ys hI he
                    refine stepOkY_later rfl ?_ (op_move (R := fun v W' => v = .int .i64 0) rfl (he.keep (.tmp 13) (by kernel_rfl)))
                    rintro v W' hL rfl
                    exact hI.pure hL 14 _ (by decide) (by decide) (by decide) (fun v e => Option.some.inj (Option.some.inj e))
                  · intro a W f ys hI he
                    refine stepOkY_later rfl ?_ (op_binOp (R := fun v W' => v = .int .i64 1) rfl rfl ((he.val 14 90 (by kernel_rfl) rfl).trans (hI.tab 14 _ rfl (he.done 14 (by kernel_rfl)))) eqgI (subI0 W) rfl)
                    rintro v W' hL rfl
                    exact hI.pure hL 15 _ (by decide) (by decide) (by decide) (fun v e => Option.some.inj (Option.some.inj e))
                  · intro a W f ys hI he
                    refine stepOkY_later rfl ?_ (op_idx (R := fun v W' => v = .pointer (some ⟨ga, 1, none⟩)) rfl (he.keep (.tmp 11) (by kernel_rfl)) ((he.val 15 91 (by kernel_rfl) rfl).trans (hI.tab 15 _ rfl (he.done 15 (by kernel_rfl)))) (idxK1 ga W) rfl)
                    rintro v W' hL rfl
                    exact hI.pure hL 16 _ (by decide) (by decide) (by decide) (fun v e => Option.some.inj (Option.some.inj e))
                  · intro a W f ys hI he
                    have hx := hT.ra.same hI.same ⟨la, (fun e => hT.nma e.symm), (fun e => hT.nka e.symm)⟩
                    refine stepOkY_later rfl ?_ (op_load (R := fun v W' => v = .slice (M 1) (msg 1).length (mc 1)) rfl ((he.val 16 92 (by kernel_rfl) rfl).trans (hI.tab 16 _ rfl (he.done 16 (by kernel_rfl)))) (loadB ((hx.cell 1).trans rfl)) rfl)
                    rintro v W' hL rfl
                    exact hI.pure hL 17 _ (by decide) (by decide) (by decide) (fun v e => Option.some.inj (Option.some.inj e))
                  · intro a W f ys hI he
                    refine stepOkY_later rfl ?_ (op_idx (R := fun v W' => v = .pointer (some ⟨gm, 0, none⟩)) rfl ((he.val 0 76 (by kernel_rfl) rfl).trans (hI.tab 0 _ rfl (he.done 0 (by kernel_rfl)))) ((he.val 1 77 (by kernel_rfl) rfl).trans (hI.tab 1 _ rfl (he.done 1 (by kernel_rfl)))) (idxM0 gm W) rfl)
                    rintro v W' hL rfl
                    exact hI.pure hL 18 _ (by decide) (by decide) (by decide) (fun v e => Option.some.inj (Option.some.inj e))
                  · intro a W f ys hI he
                    obtain ⟨x, hx, _⟩ := hI.rm
                    have hd9 : f 9 = true := he.done 9 (by kernel_rfl)
                    obtain ⟨m', r', em, _⟩ := hI.mac hd9
                    have e94 : a.eval (.tmp 94) = .pointer (some ⟨gm, 0, none⟩) := ((he.val 18 94 (by kernel_rfl) rfl).trans (hI.tab 18 _ rfl (he.done 18 (by kernel_rfl))))
                    have e85 : a.eval (.tmp 85) = ptrV m' := (he.val 9 85 (by kernel_rfl) rfl).trans em
                    have h9 := hI.nineteen hd9 rfl 0 lm hT.nmk (fun _ _ => rfl)
                    rw [em] at h9
                    exact stepOkY_want rfl (op_storeK rfl e94 e85 (storeM ((hx.cell 0).trans rfl) (hx.frozen 0)) ⟨undef, rfl, h9⟩)
                  · intro a W f ys hI he
                    refine stepOkY_later rfl ?_ (op_idx (R := fun v W' => v = .pointer (some ⟨gk, 0, none⟩)) rfl (he.keep (.tmp 10) (by kernel_rfl)) ((he.val 2 78 (by kernel_rfl) rfl).trans (hI.tab 2 _ rfl (he.done 2 (by kernel_rfl)))) (idxK0 gk W) rfl)
                    rintro v W' hL rfl
                    exact hI.pure hL 20 _ (by decide) (by decide) (by decide) (fun v e => Option.some.inj (Option.some.inj e))
                  · intro a W f ys hI he
                    obtain ⟨x, hx, _⟩ := hI.rk
                    have e95 : a.eval (.tmp 95) = .pointer (some ⟨gk, 0, none⟩) := ((he.val 20 95 (by kernel_rfl) rfl).trans (hI.tab 20 _ rfl (he.done 20 (by kernel_rfl))))
                    have e89 : a.eval (.tmp 89) = .slice (K 1) (key 1).length (kc 1) := ((he.val 13 89 (by kernel_rfl) rfl).trans (hI.tab 13 _ rfl (he.done 13 (by kernel_rfl))))
                    have h9 := hI.twentyone rfl 0 lk hT.nmk (fun _ _ => rfl)
                    exact stepOkY_want rfl (op_storeK rfl e95 e89 (storeB ((hx.cell 0).trans rfl) (hx.frozen 0)) ⟨undef, rfl, h9⟩)
                  · intro a W f ys hI he
                    refine stepOkY_later rfl ?_ (op_idx (R := fun v W' => v = .pointer (some ⟨ga, 0, none⟩)) rfl (he.keep (.tmp 11) (by kernel_rfl)) ((he.val 3 79 (by kernel_rfl) rfl).trans (hI.tab 3 _ rfl (he.done 3 (by kernel_rfl)))) (idxK0 ga W) rfl)
                    rintro v W' hL rfl
                    exact hI.pure hL 22 _ (by decide) (by decide) (by decide) (fun v e => Option.some.inj (Option.some.inj e))
                  · intro f ys W hI hd _ hk hgt
                    obtain ⟨x, hx, ex⟩ := hI.rm
                    have ex := ex (hd 19 (by decide))
                    obtain ⟨u, hu, eu⟩ := hI.rk
                    have eu := eu (hd 21 (by decide))
                    obtain ⟨m', r', em, hmac, h1, h2⟩ := hI.mac (hd 9 (by decide))
                    subst eu
                    rw [ex, em] at hx
                    have e93 := (hgt 17 93 (by decide) (by kernel_rfl)).trans (hI.tab 17 _ rfl (hd 17 (by decide)))
                    have e96 := (hgt 22 96 (by decide) (by kernel_rfl)).trans (hI.tab 22 _ rfl (hd 22 (by decide)))
                    have raW := hT.ra.same hI.same ⟨la, (fun e => hT.nma e.symm), (fun e => hT.nka e.symm)⟩
                    have hs := Same.set W ⟨ga, 0, none⟩ (.slice (M 1) (msg 1).length (mc 1))
                    refine last_store rfl rfl e96 e93 (storeB ((raW.cell 0).trans rfl) (raW.frozen 0)) ?_
                    have hT6 := hT.copy 0 1 (by decide) (by decide) (by decide) ((hI.same.mono fun k hk => ⟨hk.1, hk.2.1, hk.2.2.1⟩).trans (hs.mono fun k hk => hk.2.2.2)) h1 h2 (hmac.same hs (by show m' ≠ ga; omega) (by show r' ≠ ga; omega)) (hx.same hs hT.nma) (hu.same hs hT.nka) (raW.set 0 _)
                    clear hk hgt hd e93 e96 hT hI raW hs hx hu hmac ex em h1 h2 lm lk la hLx q0 q1 q2 p2
                    simp only [initL, lastL, putL, Nat.reduceAdd, Act.put, List.setIfInBounds_toArray, List.set_cons_succ, List.set_cons_zero]
                    go_wp2_with fail
                    go_roundw
                    case rel => exact ⟨i + 1, _, _, _, _, _, _, _, _, by omega, by go_num, hT6, fun k hk => by
                      by_cases e : k = 0
                      · subst e; rw [up_self]; omega
                      · rw [up_ne _ _ e]; have := hml k hk; omega⟩
                    case measure => simp [intOf]; omega
            | true =>
              by_cases hw0 : what = 0
              · subst hw0
                go_upto_region 22 with fail
                refine (wpIn_wide (n := 0)).1 ?_
                refine wpIn_region_pivot wide_wide 9 [.slice (some ⟨gm, 0, none⟩) 2 2, .int .i64 1, .pointer (some ⟨gm, 1, none⟩), .pointer (some ⟨g 1, 0, none⟩), .slice (some ⟨b, o, none⟩) m cb, .int .i64 (i : Int), .pointer (some ⟨b, o + i * 3, none⟩), .pointer (some ⟨b, o + i * 3 + 2, none⟩), .slice A' n' c', undef, .int .i64 0] (fun W => Later wr W) (fun y W => y = .int .i64 0 ∧ Two w W gm gk ga g r K kc key M mc (up msg 1 (msg 1 ++ bs)) msg) (fun W W' h k => k.step h) (fun y W W' h k => ⟨k.1, k.2.step h⟩) (Later.refl _) (by kernel_rfl) (by kernel_rfl) (by kernel_rfl) (by kernel_rfl) (by kernel_rfl) (by kernel_rfl) rfl (by kernel_rfl) (by kernel_rfl) ⟨?_, ?_, ?_, ?_, ?_, ?_, ?_, ?_, ?_, ?_, ?_, trivial⟩ ?_
                · exact fun ac W dd xx he => stepOk_want rfl (op_move rfl (he.keep (.tmp 8) (by kernel_rfl)))
                · exact fun ac W dd xx he => stepOk_want rfl (op_move rfl (he.keep (.tmp 13) (by kernel_rfl)))
                · exact fun ac W dd xx he => stepOk_want rfl (op_idx rfl (show ac.eval (.tmp 99) = .slice (some ⟨gm, 0, none⟩) 2 2 from he.val 0 99 (by kernel_rfl) rfl rfl) (show ac.eval (.tmp 100) = .int .i64 1 from he.val 1 100 (by kernel_rfl) rfl rfl) (idxM1 gm W) rfl)
                · exact fun ac W dd xx he => stepOk_want rfl (op_load rfl (show ac.eval (.tmp 101) = .pointer (some ⟨gm, 1, none⟩) from he.val 2 101 (by kernel_rfl) rfl rfl) (loadM (he.both (C := fun W => W.cell? ⟨gm, 1, none⟩ = some (.pointer (some ⟨g 1, 0, none⟩))) (fun W h => ((hT.step h).rm.cell 1).trans rfl) (fun y W h => (h.2.rm.cell 1).trans rfl))) rfl)
                · exact fun ac W dd xx he => stepOk_want rfl (op_move rfl (he.keep (.tmp 2) (by kernel_rfl)))
                · exact fun ac W dd xx he => stepOk_want rfl (op_move rfl (he.keep (.tmp 12) (by kernel_rfl)))
                · exact fun ac W dd xx he => stepOk_want rfl (op_idx rfl (show ac.eval (.tmp 103) = .slice (some ⟨b, o, none⟩) m cb from he.val 4 103 (by kernel_rfl) rfl rfl) (show ac.eval (.tmp 104) = .int .i64 (i : Int) from he.val 5 104 (by kernel_rfl) rfl rfl) (idxPAct hlt) rfl)
                · exact fun ac W dd xx he => stepOk_want rfl (op_fieldAddr rfl (show ac.eval (.tmp 105) = .pointer (some ⟨b, o + i * 3, none⟩) from he.val 6 105 (by kernel_rfl) rfl rfl) fieldP2 rfl)
                · exact fun ac W dd xx he => stepOk_want rfl (op_load rfl (show ac.eval (.tmp 106) = .pointer (some ⟨b, o + i * 3 + 2, none⟩) from he.val 7 106 (by kernel_rfl) rfl rfl) (loadB (he.both (C := fun W => W.cell? ⟨b, o + i * 3 + 2, none⟩ = some (.slice A' n' c')) (fun W h => h.cell q2) (fun y W h => h.2.later.cell p2))) rfl)
                · intro ac W he hA; refine ⟨rfl, ?_⟩; have e102 := (show ac.eval (.tmp 102) = .pointer (some ⟨g 1, 0, none⟩) from he.val 3 102 (by kernel_rfl) rfl rfl); have e107 := (show ac.eval (.tmp 107) = .slice A' n' c' from he.val 8 107 (by kernel_rfl) rfl rfl); exact op_callFK (vs := #[.pointer (some ⟨g 1, 0, none⟩), .slice A' n' c']) rfl (by simp only [List.map_toArray, List.map_cons, List.map_nil, e102, e107]) (enters_of Try.func19 (by kernel_rfl) rfl) ((writeMac_any (g 1) (r 1) (key 1) (msg 1) A' n' c' bs W ((hT.step hA).mac 1 (by decide)) HN'.out hnc hcm (hrb.later hA) (HNB.out _ (hT.nr 1 (by decide)).1) (by have := hml 1 (by decide); omega)).mono fun e W' ⟨he', hm, hg⟩ => ⟨_, he', _, rfl, rfl, (hT.step hA).write 1 (by decide) hg hm⟩)
                · intro ac W dd xx he; refine stepOk_want rfl ?_; have hB := he.behind (he.waits (by kernel_rfl)); have e0 : ac.eval (.tmp 108) = .int .i64 0 := (he.piv 108 (by kernel_rfl) rfl).trans hB.1; exact op_callF (vs := #[.int .i64 0]) rfl (by simp only [List.map_toArray, List.map_cons, List.map_nil, e0]) (enters_of Try.func15 (by kernel_rfl) rfl) ((num2_any 0 W).mono fun e W' ⟨he', hw'⟩ => ⟨_, he', hw' ▸ Later.refl _, rfl⟩)
                · intro ys W y hB hx hk hg
                  have e10 := hg 10 109 (by decide) (by kernel_rfl)
                  rw [hx 10 (by decide)] at e10
                  refine last_binOp (v := .bool false) rfl e10 rfl eqgI (neqI_me _ _ _) ?_
                  obtain ⟨_, hT4⟩ := hB
                  clear hx hk hg e10 q0 q1 hT hLx
                  simp only [initL, lastL, putL, Nat.reduceAdd, Act.put, List.setIfInBounds_toArray, List.set_cons_succ, List.set_cons_zero]
                  generalize hW4 : W = w4 at *
                  clear hW4
                  go_upto_region 24 with fail
                  refine (wpIn_wide (n := 0)).1 ?_
                  refine wpIn_region_lastY wide_wide (InvA w4 [some (.int .i64 1), none, some (.int .i64 1), some (.pointer (some ⟨ga, 1, none⟩)), some (.slice (M 1) (msg 1).length (mc 1)), none, some (.slice (some ⟨b, o, none⟩) m cb), some (.int .i64 (i : Int)), some (.pointer (some ⟨b, o + i * 3, none⟩)), some (.pointer (some ⟨b, o + i * 3 + 2, none⟩)), some (Value.slice A' n' c'), none, some (.pointer (some ⟨ga, 1, none⟩))] (msg 1) bs) ⟨(Later.refl w4).drew, Tab.nil _ _, (fun h => by cases h), (fun h => by cases h), (fun h => by cases h), (fun h => by cases h)⟩ (by kernel_rfl) (by kernel_rfl) (by kernel_rfl) (by kernel_rfl) (by kernel_rfl) (by kernel_rfl) rfl ⟨?_, ?_, ?_, ?_, ?_, ?_, ?_, ?_, ?_, ?_, ?_, ?_, ?_, trivial⟩ ?_
                  · intro a W f ys hI he
                    refine stepOkY_later rfl ?_ (op_move (R := fun v W' => v = .int .i64 1) rfl (he.keep (.tmp 13) (by kernel_rfl)))
                    rintro v W' hL rfl
                    exact hI.pure hL 0 _ (by decide) (by decide) (by decide) (fun v e => Option.some.inj (Option.some.inj e))
                  · intro a W f ys hI he
                    refine stepOkY_later rfl ?_ (op_buildSlice (vs := #[]) (R := fun v W' => Own 5 W' w4.heap.size v []) rfl (by simp) (run_void W) ((Later.refl W).alloc _) (own_void W _ _ hI.later.size))
                    intro v W' hL ho
                    exact hI.one hL rfl ho
                  · intro a W f ys hI he
                    refine stepOkY_later rfl ?_ (op_move (R := fun v W' => v = .int .i64 1) rfl (he.keep (.tmp 13) (by kernel_rfl)))
                    rintro v W' hL rfl
                    exact hI.pure hL 2 _ (by decide) (by decide) (by decide) (fun v e => Option.some.inj (Option.some.inj e))
                  · intro a W f ys hI he
                    refine stepOkY_later rfl ?_ (op_idx (R := fun v W' => v = .pointer (some ⟨ga, 1, none⟩)) rfl (he.keep (.tmp 11) (by kernel_rfl)) ((he.val 2 113 (by kernel_rfl) rfl).trans (hI.tab 2 _ rfl (he.done 2 (by kernel_rfl)))) (idxK1 ga W) rfl)
                    rintro v W' hL rfl
                    exact hI.pure hL 3 _ (by decide) (by decide) (by decide) (fun v e => Option.some.inj (Option.some.inj e))
                  · intro a W f ys hI he
                    refine stepOkY_later rfl ?_ (op_load (R := fun v W' => v = .slice (M 1) (msg 1).length (mc 1)) rfl ((he.val 3 114 (by kernel_rfl) rfl).trans (hI.tab 3 _ rfl (he.done 3 (by kernel_rfl)))) (loadB (((hT4.step hI.later).ra.cell 1).trans rfl)) rfl)
                    rintro v W' hL rfl
                    exact hI.pure hL 4 _ (by decide) (by decide) (by decide) (fun v e => Option.some.inj (Option.some.inj e))
                  · intro a W f ys hI he
                    have ho := hI.o1 (he.done 1 (by kernel_rfl)) he.todo
                    have e112 : a.eval (.tmp 112) = ys 1 := he.val 1 112 (by kernel_rfl) rfl
                    have e115 : a.eval (.tmp 115) = .slice (M 1) (msg 1).length (mc 1) := ((he.val 4 115 (by kernel_rfl) rfl).trans (hI.tab 4 _ rfl (he.done 4 (by kernel_rfl))))
                    have hmr := (hT4.step hI.later).mr 1 (by decide)
                    exact stepOkY_want rfl (op_append_bytes (.tmp 112) (.tmp 115) 22 rfl w4.heap.size 5 Try.underlying22 byteInfo8 (ys 1) [] e112 ho (M 1) _ (mc 1) (msg 1) e115 rfl hmr.rd (by have := hml 1 (by decide); simp only [List.length_nil]; omega) hI.later.size (fun v' w' h1 h2 h3 => ⟨v', rfl, hI.five ho h2 rfl he.todo h1⟩))
                  · intro a W f ys hI he
                    refine stepOkY_later rfl ?_ (op_move (R := fun v W' => v = .slice (some ⟨b, o, none⟩) m cb) rfl (he.keep (.tmp 2) (by kernel_rfl)))
                    rintro v W' hL rfl
                    exact hI.pure hL 6 _ (by decide) (by decide) (by decide) (fun v e => Option.some.inj (Option.some.inj e))
                  · intro a W f ys hI he
                    refine stepOkY_later rfl ?_ (op_move (R := fun v W' => v = .int .i64 (i : Int)) rfl (he.keep (.tmp 12) (by kernel_rfl)))
                    rintro v W' hL rfl
                    exact hI.pure hL 7 _ (by decide) (by decide) (by decide) (fun v e => Option.some.inj (Option.some.inj e))
                  · intro a W f ys hI he
                    refine stepOkY_later rfl ?_ (op_idx (R := fun v W' => v = .pointer (some ⟨b, o + i * 3, none⟩)) rfl ((he.val 6 117 (by kernel_rfl) rfl).trans (hI.tab 6 _ rfl (he.done 6 (by kernel_rfl)))) ((he.val 7 118 (by kernel_rfl) rfl).trans (hI.tab 7 _ rfl (he.done 7 (by kernel_rfl)))) (idxPAct hlt) rfl)
                    rintro v W' hL rfl
                    exact hI.pure hL 8 _ (by decide) (by decide) (by decide) (fun v e => Option.some.inj (Option.some.inj e))
                  · intro a W f ys hI he
                    refine stepOkY_later rfl ?_ (op_fieldAddr (R := fun v W' => v = .pointer (some ⟨b, o + i * 3 + 2, none⟩)) rfl ((he.val 8 119 (by kernel_rfl) rfl).trans (hI.tab 8 _ rfl (he.done 8 (by kernel_rfl)))) fieldP2 rfl)
                    rintro v W' hL rfl
                    exact hI.pure hL 9 _ (by decide) (by decide) (by decide) (fun v e => Option.some.inj (Option.some.inj e))
                  · intro a W f ys hI he
                    refine stepOkY_later rfl ?_ (op_load (R := fun v W' => v = Value.slice A' n' c') rfl ((he.val 9 120 (by kernel_rfl) rfl).trans (hI.tab 9 _ rfl (he.done 9 (by kernel_rfl)))) (loadB ((hT4.step hI.later).later.cell p2)) rfl)
                    rintro v W' hL rfl
                    exact hI.pure hL 10 _ (by decide) (by decide) (by decide) (fun v e => Option.some.inj (Option.some.inj e))
                  · intro a W f ys hI he
                    have ho := hI.o5 (he.done 5 (by kernel_rfl)) he.todo
                    have e116 : a.eval (.tmp 116) = ys 5 := he.val 5 116 (by kernel_rfl) rfl
                    have e121 : a.eval (.tmp 121) = .slice A' n' c' := ((he.val 10 121 (by kernel_rfl) rfl).trans (hI.tab 10 _ rfl (he.done 10 (by kernel_rfl))))
                    have hbW := HRB.out.later (hT4.step hI.later).later
                    exact stepOkY_want rfl (op_append_bytes (.tmp 116) (.tmp 121) 22 rfl w4.heap.size 5 Try.underlying22 byteInfo8 (ys 5) (msg 1) e116 ho A' n' c' bs e121 HN'.out hbW (by have := hml 1 (by decide); omega) hI.later.size (fun v' w' h1 h2 h3 => ⟨v', rfl, hI.eleven ho h2 rfl (he.done 5 (by kernel_rfl)) h1⟩))
                  · intro a W f ys hI he
                    refine stepOkY_later rfl ?_ (op_idx (R := fun v W' => v = .pointer (some ⟨ga, 1, none⟩)) rfl (he.keep (.tmp 11) (by kernel_rfl)) ((he.val 0 111 (by kernel_rfl) rfl).trans (hI.tab 0 _ rfl (he.done 0 (by kernel_rfl)))) (idxK1 ga W) rfl)
                    rintro v W' hL rfl
                    exact hI.pure hL 12 _ (by decide) (by decide) (by decide) (fun v e => Option.some.inj (Option.some.inj e))
                  · intro f ys W hI hd _ hk hgt
                    have ho := hI.o11 (hd 11 (by decide))
                    have hat := fun k e => (ho.at_ k e).1
                    obtain ⟨A5, c5, e5, h51, h52, h53⟩ := ho.slice
                    have e122 := hgt 11 122 (by decide) (by kernel_rfl)
                    have e123 := (hgt 12 123 (by decide) (by kernel_rfl)).trans (hI.tab 12 _ rfl (hd 12 (by decide)))
                    rw [e5] at e122 hat
                    have hT5 := hT4.step hI.later
                    have hra := hT5.ra
                    refine last_store rfl rfl e123 e122 (storeB ((hra.cell 1).trans rfl) (hra.frozen 1)) ?_
                    have lm := hT4.rm.lt
                    have lk := hT4.rk.lt
                    have la := hT4.ra.lt
                    have lr := fun i (hi : i < 2) => (hT4.mac i hi).run.lt
                    have hT6 := hT5.all 1 (by decide) ⟨h53, h51, h52⟩ (fun b o e hne => by subst e; have := hat b rfl; exact ⟨by omega, by omega, by omega, fun j hj => by have := lr j hj; omega⟩)
                    rw [List.length_append] at hT6
                    clear hk hgt hd e122 e123 hT5 hT4 hra hI ho hat h53 e5 lm lk la lr
                    simp only [initL, lastL, putL, Nat.reduceAdd, Act.put, List.setIfInBounds_toArray, List.set_cons_succ, List.set_cons_zero]
                    go_wp2_with fail
                    go_roundw
                    case rel => exact ⟨i + 1, g, r, K, kc, key, up M 1 A5, up mc 1 c5, up msg 1 (msg 1 ++ bs), by omega, by go_num, hT6, fun k hk => by
                      by_cases e : k = 1
                      · subst e; rw [up_self, List.length_append, HN'.out]; have := hml 1 (by decide); omega
                      · rw [up_ne _ _ e]; have := hml k hk; omega⟩
                    case measure => simp [intOf]; omega
              · have hd0 : decide (what = 0) = false := decide_eq_false hw0
                by_cases hw1 : what = 1
                · subst hw1
                  go_upto_region 26 with fail
                  refine (wpIn_wide (n := 0)).1 ?_
                  refine wpIn_region_vals wide_wide [Pr.eq (.slice (some ⟨gm, 0, none⟩) 2 2), Pr.eq (.int .i64 1), Pr.eq (.pointer (some ⟨gm, 1, none⟩)), Pr.eq (.pointer (some ⟨g 1, 0, none⟩)), Pr.eq (.agg (hC (Hm.tag (key 1) (msg 1)))), Pr.eq (.int .i64 1), Pr.eq (.pointer (some ⟨gk, 1, none⟩)), Pr.eq (.slice (K 1) (key 1).length (kc 1)), Pr.eq (.int .i64 1), Pr.eq (.pointer (some ⟨ga, 1, none⟩)), Pr.eq (.slice (M 1) (msg 1).length (mc 1)), Pr.eq (.agg (hC (Hm.tag (key 1) (msg 1)))), Pr.eq (.bool false)] (by kernel_rfl) (by kernel_rfl) (by kernel_rfl) (by kernel_rfl) (by kernel_rfl) ⟨?_, ?_, ?_, ?_, ?_, ?_, ?_, ?_, ?_, ?_, ?_, ?_, ?_, trivial⟩ ?_
                  · exact fun ac W hL he => stepOk_want rfl (op_move rfl (he.keep (.tmp 8) (by kernel_rfl)))
                  · exact fun ac W hL he => stepOk_want rfl (op_move rfl (he.keep (.tmp 13) (by kernel_rfl)))
                  · exact fun ac W hL he => stepOk_want rfl (op_idx rfl (he.get 0 126 (by kernel_rfl) rfl) (he.get 1 127 (by kernel_rfl) rfl) (idxM1 gm W) rfl)
                  · exact fun ac W hL he => stepOk_want rfl (op_load rfl (he.get 2 128 (by kernel_rfl) rfl) (loadM (((hT.step hL).rm.cell 1).trans rfl)) rfl)
                  · intro ac W hL he; refine stepOk_want rfl ?_; have e0 : ac.eval (.tmp 129) = .pointer (some ⟨g 1, 0, none⟩) := (he.get 3 129 (by kernel_rfl) rfl); exact op_callF (vs := #[.pointer (some ⟨g 1, 0, none⟩)]) rfl (by simp only [List.map_toArray, List.map_cons, List.map_nil, e0]) (enters_of Try.func21 (by kernel_rfl) rfl) ((macTag_any (g 1) (r 1) (key 1) (msg 1) W ((hT.step hL).mac 1 (by decide)) (by have := hml 1 (by decide); omega)).mono fun e W' ⟨he', hb⟩ => ⟨_, he', hb, rfl⟩)
                  · exact fun ac W hL he => stepOk_want rfl (op_move rfl (he.keep (.tmp 13) (by kernel_rfl)))
                  · exact fun ac W hL he => stepOk_want rfl (op_idx rfl (he.keep (.tmp 10) (by kernel_rfl)) (he.get 5 131 (by kernel_rfl) rfl) (idxK1 gk W) rfl)
                  · exact fun ac W hL he => stepOk_want rfl (op_load rfl (he.get 6 132 (by kernel_rfl) rfl) (loadB (((hT.step hL).rk.cell 1).trans rfl)) rfl)
                  · exact fun ac W hL he => stepOk_want rfl (op_move rfl (he.keep (.tmp 13) (by kernel_rfl)))
                  · exact fun ac W hL he => stepOk_want rfl (op_idx rfl (he.keep (.tmp 11) (by kernel_rfl)) (he.get 8 134 (by kernel_rfl) rfl) (idxK1 ga W) rfl)
                  · exact fun ac W hL he => stepOk_want rfl (op_load rfl (he.get 9 135 (by kernel_rfl) rfl) (loadB (((hT.step hL).ra.cell 1).trans rfl)) rfl)
                  · intro ac W hL he; refine stepOk_want rfl ?_; have e0 : ac.eval (.tmp 133) = .slice (K 1) (key 1).length (kc 1) := (he.get 7 133 (by kernel_rfl) rfl); have e1 : ac.eval (.tmp 136) = .slice (M 1) (msg 1).length (mc 1) := (he.get 10 136 (by kernel_rfl) rfl); exact op_callF (vs := #[.slice (K 1) (key 1).length (kc 1), .slice (M 1) (msg 1).length (mc 1)]) rfl (by simp only [List.map_toArray, List.map_cons, List.map_nil, e0, e1]) (enters_of Try.func11 (by kernel_rfl) rfl) ((refTag_any (K 1) (key 1).length (kc 1) (key 1) (M 1) (msg 1).length (mc 1) (msg 1) W rfl rfl (by have := (hT.step hL).kl 1 (by decide); omega) (by have := hml 1 (by decide); omega) ((hT.step hL).keyAt 1 (by decide)).cap ((hT.step hL).keyAt 1 (by decide)).most ((hT.step hL).keyAt 1 (by decide)).rd ((hT.step hL).mr 1 (by decide)).rd).mono fun e W' ⟨he', hb⟩ => ⟨_, he', hb, rfl⟩)
                  · exact fun ac W hL he => stepOk_want rfl (op_binOp rfl (he.get 4 130 (by kernel_rfl) rfl) (he.get 11 137 (by kernel_rfl) rfl) (eqgHash _ _ _ _ _ W) (neqSame _ (Hm.tag_len _ _) W) rfl)
                  intro zs W9 hL9 hzs
                  have e138 := hzs 12 (by decide)
                  have hT9 := hT.step hL9
                  clear hzs hL9 hT hLx q0 q1 q2
                  simp only [putL, Nat.reduceAdd, Act.put, List.setIfInBounds_toArray, List.set_cons_succ, List.set_cons_zero]
                  rw [e138]
                  go_wp2_with fail
                  go_roundw
                  case rel => exact ⟨i + 1, g, r, K, kc, key, M, mc, msg, by omega, by go_num, hT9, fun k hk => by have := hml k hk; omega⟩
                  case measure => simp [intOf]; omega
                · have hd1 : decide (what = 1) = false := decide_eq_false hw1
                  go_upto_region 20 with fail
                  refine (wpIn_wide (n := 0)).1 ?_
                  have lm := hT.rm.lt
                  have lk := hT.rk.lt
                  have la := hT.ra.lt
                  have hml2 := hml 0 (by decide)
                  refine wpIn_region_lastY wide_wide (InvC wr gm gk (fun x => #[ptrV (g 0), x]) (fun x => #[.slice (K 0) (key 0).length (kc 0), x]) [some (.slice (some ⟨gm, 0, none⟩) 2 2), some (.int .i64 1), some (.int .i64 1), some (.int .i64 1), some (.slice (some ⟨gm, 0, none⟩) 2 2), some (.int .i64 1), some (.int .i64 0), some (.pointer (some ⟨gm, 0, none⟩)), some (.pointer (some ⟨g 0, 0, none⟩)), none, some (.int .i64 1), some (.int .i64 0), some (.pointer (some ⟨gk, 0, none⟩)), some (.slice (K 0) (key 0).length (kc 0)), some (.int .i64 1), some (.int .i64 0), some (.pointer (some ⟨ga, 0, none⟩)), some (.slice (M 0) (msg 0).length (mc 0)), some (.pointer (some ⟨gm, 1, none⟩)), none, some (.pointer (some ⟨gk, 1, none⟩)), none, some (.pointer (some ⟨ga, 1, none⟩))] (key 0) (msg 0) (.slice (K 0) (key 0).length (kc 0))) ⟨(Same.of_below ((Later.refl wr).drew)).mono fun k hk => hk.1, Tab.nil _ _, ⟨_, hT.rm.drew, (fun h => by cases h)⟩, ⟨_, hT.rk.drew, (fun h => by cases h)⟩, (fun h => by cases h), (fun h => by cases h)⟩ (by kernel_rfl) (by kernel_rfl) (by kernel_rfl) (by kernel_rfl) (by kernel_rfl) (by kernel_rfl) rfl ⟨?_, ?_, ?_, ?_, ?_, ?_, ?_, ?_, ?_, ?_, ?_, ?_, ?_, ?_, ?_, ?_, ?_, ?_, ?_, ?_, ?_, ?_, ?_, trivial⟩ ?_
                  · intro a W f ys hI he
                    refine stepOkY_later rfl ?_ (op_move (R := fun v W' => v = .slice (some ⟨gm, 0, none⟩) 2 2) rfl (he.keep (.tmp 8) (by kernel_rfl)))
                    rintro v W' hL rfl
                    exact hI.pure hL 0 _ (by decide) (by decide) (by decide) (fun v e => Option.some.inj (Option.some.inj e))
                  · intro a W f ys hI he
                    refine stepOkY_later rfl ?_ (op_move (R := fun v W' => v = .int .i64 1) rfl (he.keep (.tmp 13) (by kernel_rfl)))
                    rintro v W' hL rfl
                    exact hI.pure hL 1 _ (by decide) (by decide) (by decide) (fun v e => Option.some.inj (Option.some.inj e))
                  · intro a W f ys hI he
                    refine stepOkY_later rfl ?_ (op_move (R := fun v W' => v = .int .i64 1) rfl (he.keep (.tmp 13) (by kernel_rfl)))
                    rintro v W' hL rfl
                    exact hI.pure hL 2 _ (by decide) (by decide) (by decide) (fun v e => Option.some.inj (Option.some.inj e))
                  · intro a W f ys hI he
                    refine stepOkY_later rfl ?_ (op_move (R := fun v W' => v = .int .i64 1) rfl (he.keep (.tmp 13) (by kernel_rfl)))
                    rintro v W' hL rfl
                    exact hI.pure hL 3 _ (by decide) (by decide) (by decide) (fun v e => Option.some.inj (Option.some.inj e))
                  · intro a W f ys hI he
                    refine stepOkY_later rfl ?_ (op_move (R := fun v W' => v = .slice (some ⟨gm, 0, none⟩) 2 2) rfl (he.keep (.tmp 8) (by kernel_rfl)))
                    rintro v W' hL rfl
                    exact hI.pure hL 4 _ (by decide) (by decide) (by decide) (fun v e => Option.some.inj (Option.some.inj e))
                  · intro a W f ys hI he
                    refine stepOkY_later rfl ?_ (op_move (R := fun v W' => v = .int .i64 1) rfl (he.keep (.tmp 13) (by kernel_rfl)))
                    rintro v W' hL rfl
                    exact hI.pure hL 5 _ (by decide) (by decide) (by decide) (fun v e => Option.some.inj (Option.some.inj e))
                  · intro a W f ys hI he
                    refine stepOkY_later rfl ?_ (op_binOp (R := fun v W' => v = .int .i64 0) rfl rfl ((he.val 5 81 (by kernel_rfl) rfl).trans (hI.tab 5 _ rfl (he.done 5 (by kernel_rfl)))) eqgI (subI1 W) rfl)
                    rintro v W' hL rfl
                    exact hI.pure hL 6 _ (by decide) (by decide) (by decide) (fun v e => Option.some.inj (Option.some.inj e))
                  · intro a W f ys hI he
                    refine stepOkY_later rfl ?_ (op_idx (R := fun v W' => v = .pointer (some ⟨gm, 0, none⟩)) rfl ((he.val 4 80 (by kernel_rfl) rfl).trans (hI.tab 4 _ rfl (he.done 4 (by kernel_rfl)))) ((he.val 6 82 (by kernel_rfl) rfl).trans (hI.tab 6 _ rfl (he.done 6 (by kernel_rfl)))) (idxM0 gm W) rfl)
                    rintro v W' hL rfl
                    exact hI.pure hL 7 _ (by decide) (by decide) (by decide) (fun v e => Option.some.inj (Option.some.inj e))
                  · intro a W f ys hI he
                    obtain ⟨x, hx, _⟩ := hI.rm
                    refine stepOkY_later rfl ?_ (op_load (R := fun v W' => v = .pointer (some ⟨g 0, 0, none⟩)) rfl ((he.val 7 83 (by kernel_rfl) rfl).trans (hI.tab 7 _ rfl (he.done 7 (by kernel_rfl)))) (loadM ((hx.cell 0).trans rfl)) rfl)
                    rintro v W' hL rfl
                    exact hI.pure hL 8 _ (by decide) (by decide) (by decide) (fun v e => Option.some.inj (Option.some.inj e))
                  · intro a W f ys hI he
                    have e84 : a.eval (.tmp 84) = .pointer (some ⟨g 0, 0, none⟩) := ((he.val 8 84 (by kernel_rfl) rfl).trans (hI.tab 8 _ rfl (he.done 8 (by kernel_rfl))))
                    have hm := (hT.mac 0 (by decide)).same hI.same ⟨(hT.mac 0 (by decide)).row.lt, (hT.ng 0 (by decide)).1, (hT.ng 0 (by decide)).2.1⟩ ⟨(hT.mac 0 (by decide)).run.lt, (hT.nr 0 (by decide)).2.1, (hT.nr 0 (by decide)).2.2.1⟩
                    exact stepOkY_want rfl (op_callFK (vs := #[.pointer (some ⟨g 0, 0, none⟩)]) rfl (by simp only [List.map_toArray, List.map_cons, List.map_nil, e84]) (enters_of Try.func24 (by kernel_rfl) rfl) ((copyMac_any (g 0) (r 0) (key 0) (msg 0) W hm).mono fun e W' ⟨m', r', he', hm', h1, h2, hL⟩ => ⟨_, he', _, rfl, hI.nine hL he.todo rfl hm' h1 h2⟩))
                  · intro a W f ys hI he
                    refine stepOkY_later rfl ?_ (op_move (R := fun v W' => v = .int .i64 1) rfl (he.keep (.tmp 13) (by kernel_rfl)))
                    rintro v W' hL rfl
                    exact hI.pure hL 10 _ (by decide) (by decide) (by decide) (fun v e => Option.some.inj (Option.some.inj e))
                  · intro a W f ys hI he
                    refine stepOkY_later rfl ?_ (op_binOp (R := fun v W' => v = .int .i64 0) rfl rfl ((he.val 10 86 (by kernel_rfl) rfl).trans (hI.tab 10 _ rfl (he.done 10 (by kernel_rfl)))) eqgI (subI1 W) rfl)
                    rintro v W' hL rfl
                    exact hI.pure hL 11 _ (by decide) (by decide) (by decide) (fun v e => Option.some.inj (Option.some.inj e))
                  · intro a W f ys hI he
                    refine stepOkY_later rfl ?_ (op_idx (R := fun v W' => v = .pointer (some ⟨gk, 0, none⟩)) rfl (he.keep (.tmp 10) (by kernel_rfl)) ((he.val 11 87 (by kernel_rfl) rfl).trans (hI.tab 11 _ rfl (he.done 11 (by kernel_rfl)))) (idxK0 gk W) rfl)
                    rintro v W' hL rfl
                    exact hI.pure hL 12 _ (by decide) (by decide) (by decide) (fun v e => Option.some.inj (Option.some.inj e))
                  · intro a W f ys hI he
                    obtain ⟨x, hx, _⟩ := hI.rk
                    refine stepOkY_later rfl ?_ (op_load (R := fun v W' => v = .slice (K 0) (key 0).length (kc 0)) rfl ((he.val 12 88 (by kernel_rfl) rfl).trans (hI.tab 12 _ rfl (he.done 12 (by kernel_rfl)))) (loadB ((hx.cell 0).trans rfl)) rfl)
                    rintro v W' hL rfl
                    exact hI.pure hL 13 _ (by decide) (by decide) (by decide) (fun v e => Option.some.inj (Option.some.inj e))
                  · intro a W f ys hI he
                    refine stepOkY_later rfl ?_ (op_move (R := fun v W' => v = .int .i64 1) rfl (he.keep (.tmp 13) (by kernel_rfl)))
                    rintro v W' hL rfl
                    exact hI.pure hL 14 _ (by decide) (by decide) (by decide) (fun v e => Option.some.inj (Option.some.inj e))
                  · intro a W f ys hI he
                    refine stepOkY_later rfl ?_ (op_binOp (R := fun v W' => v = .int .i64 0) rfl rfl ((he.val 14 90 (by kernel_rfl) rfl).trans (hI.tab 14 _ rfl (he.done 14 (by kernel_rfl)))) eqgI (subI1 W) rfl)
                    rintro v W' hL rfl
                    exact hI.pure hL 15 _ (by decide) (by decide) (by decide) (fun v e => Option.some.inj (Option.some.inj e))
                  · intro a W f ys hI he
                    refine stepOkY_later rfl ?_ (op_idx (R := fun v W' => v = .pointer (some ⟨ga, 0, none⟩)) rfl (he.keep (.tmp 11) (by kernel_rfl)) ((he.val 15 91 (by kernel_rfl) rfl).trans (hI.tab 15 _ rfl (he.done 15 (by kernel_rfl)))) (idxK0 ga W) rfl)
                    rintro v W' hL rfl
                    exact hI.pure hL 16 _ (by decide) (by decide) (by decide) (fun v e => Option.some.inj (Option.some.inj e))
                  · intro a W f ys hI he
                    have hx := hT.ra.same hI.same ⟨la, (fun e => hT.nma e.symm), (fun e => hT.nka e.symm)⟩
                    refine stepOkY_later rfl ?_ (op_load (R := fun v W' => v = .slice (M 0) (msg 0).length (mc 0)) rfl ((he.val 16 92 (by kernel_rfl) rfl).trans (hI.tab 16 _ rfl (he.done 16 (by kernel_rfl)))) (loadB ((hx.cell 0).trans rfl)) rfl)
                    rintro v W' hL rfl
                    exact hI.pure hL 17 _ (by decide) (by decide) (by decide) (fun v e => Option.some.inj (Option.some.inj e))
                  · intro a W f ys hI he
                    refine stepOkY_later rfl ?_ (op_idx (R := fun v W' => v = .pointer (some ⟨gm, 1, none⟩)) rfl ((he.val 0 76 (by kernel_rfl) rfl).trans (hI.tab 0 _ rfl (he.done 0 (by kernel_rfl)))) ((he.val 1 77 (by kernel_rfl) rfl).trans (hI.tab 1 _ rfl (he.done 1 (by kernel_rfl)))) (idxM1 gm W) rfl)
                    rintro v W' hL rfl
                    exact hI.pure hL 18 _ (by decide) (by decide) (by decide) (fun v e => Option.some.inj (Option.some.inj e))
                  · intro a W f ys hI he
                    obtain ⟨x, hx, _⟩ := hI.rm
                    have hd9 : f 9 = true := he.done 9 (by kernel_rfl)
                    obtain ⟨m', r', em, _⟩ := hI.mac hd9
                    have e94 : a.eval (.tmp 94) = .pointer (some ⟨gm, 1, none⟩) := ((he.val 18 94 (by kernel_rfl) rfl).trans (hI.tab 18 _ rfl (he.done 18 (by kernel_rfl))))
                    have e85 : a.eval (.tmp 85) = ptrV m' := (he.val 9 85 (by kernel_rfl) rfl).trans em
                    have h9 := hI.nineteen hd9 rfl 1 lm hT.nmk (fun _ _ => rfl)
                    rw [em] at h9
                    exact stepOkY_want rfl (op_storeK rfl e94 e85 (storeM ((hx.cell 1).trans rfl) (hx.frozen 1)) ⟨undef, rfl, h9⟩)
                  · intro a W f ys hI he
                    refine stepOkY_later rfl ?_ (op_idx (R := fun v W' => v = .pointer (some ⟨gk, 1, none⟩)) rfl (he.keep (.tmp 10) (by kernel_rfl)) ((he.val 2 78 (by kernel_rfl) rfl).trans (hI.tab 2 _ rfl (he.done 2 (by kernel_rfl)))) (idxK1 gk W) rfl)
                    rintro v W' hL rfl
                    exact hI.pure hL 20 _ (by decide) (by decide) (by decide) (fun v e => Option.some.inj (Option.some.inj e))
                  · intro a W f ys hI he
                    obtain ⟨x, hx, _⟩ := hI.rk
                    have e95 : a.eval (.tmp 95) = .pointer (some ⟨gk, 1, none⟩) := ((he.val 20 95 (by kernel_rfl) rfl).trans (hI.tab 20 _ rfl (he.done 20 (by kernel_rfl))))
                    have e89 : a.eval (.tmp 89) = .slice (K 0) (key 0).length (kc 0) := ((he.val 13 89 (by kernel_rfl) rfl).trans (hI.tab 13 _ rfl (he.done 13 (by kernel_rfl))))
                    have h9 := hI.twentyone rfl 1 lk hT.nmk (fun _ _ => rfl)
                    exact stepOkY_want rfl (op_storeK rfl e95 e89 (storeB ((hx.cell 1).trans rfl) (hx.frozen 1)) ⟨undef, rfl, h9⟩)
                  · intro a W f ys hI he
                    refine stepOkY_later rfl ?_ (op_idx (R := fun v W' => v = .pointer (some ⟨ga, 1, none⟩)) rfl (he.keep (.tmp 11) (by kernel_rfl)) ((he.val 3 79 (by kernel_rfl) rfl).trans (hI.tab 3 _ rfl (he.done 3 (by kernel_rfl)))) (idxK1 ga W) rfl)
                    rintro v W' hL rfl
                    exact hI.pure hL 22 _ (by decide) (by decide) (by decide) (fun v e => Option.some.inj (Option.some.inj e))
                  · intro f ys W hI hd _ hk hgt
                    obtain ⟨x, hx, ex⟩ := hI.rm
                    have ex := ex (hd 19 (by decide))
                    obtain ⟨u, hu, eu⟩ := hI.rk
                    have eu := eu (hd 21 (by decide))
                    obtain ⟨m', r', em, hmac, h1, h2⟩ := hI.mac (hd 9 (by decide))
                    subst eu
                    rw [ex, em] at hx
                    have e93 := (hgt 17 93 (by decide) (by kernel_rfl)).trans (hI.tab 17 _ rfl (hd 17 (by decide)))
                    have e96 := (hgt 22 96 (by decide) (by kernel_rfl)).trans (hI.tab 22 _ rfl (hd 22 (by decide)))
                    have raW := hT.ra.same hI.same ⟨la, (fun e => hT.nma e.symm), (fun e => hT.nka e.symm)⟩
                    have hs := Same.set W ⟨ga, 1, none⟩ (.slice (M 0) (msg 0).length (mc 0))
                    refine last_store rfl rfl e96 e93 (storeB ((raW.cell 1).trans rfl) (raW.frozen 1)) ?_
                    have hT6 := hT.copy 1 0 (by decide) (by decide) (by decide) ((hI.same.mono fun k hk => ⟨hk.1, hk.2.1, hk.2.2.1⟩).trans (hs.mono fun k hk => hk.2.2.2)) h1 h2 (hmac.same hs (by show m' ≠ ga; omega) (by show r' ≠ ga; omega)) (hx.same hs hT.nma) (hu.same hs hT.nka) (raW.set 1 _)
                    clear hk hgt hd e93 e96 hT hI raW hs hx hu hmac ex em h1 h2 lm lk la hLx q0 q1 q2 p2
                    simp only [initL, lastL, putL, Nat.reduceAdd, Act.put, List.setIfInBounds_toArray, List.set_cons_succ, List.set_cons_zero]
                    go_wp2_with fail
                    go_roundw
                    case rel => exact ⟨i + 1, _, _, _, _, _, _, _, _, by omega, by go_num, hT6, fun k hk => by
                      by_cases e : k = 1
                      · subst e; rw [up_self]; omega
                      · rw [up_ne _ _ e]; have := hml k hk; omega⟩
                    case measure => simp [intOf]; omega
        · obtain rfl : i = m := by omega
          have hd : decide ((i : Int) < (i : Int)) = false := decide_eq_false (by omega)
          have hd' : decide (i < i) = false := decide_eq_false (by omega)
          clear hrx
          go_upto_region 29 with (first
            | (go_at_call 25; refine (gone_any _ _).mono ?_; rintro e w9 ⟨pv, rfl, hno, hL9⟩)
            | fail)
          have hT9 := hT.step hL9
          clear hT hL9
          refine (wpIn_wide (n := 0)).1 ?_
          refine wpIn_region_vals wide_wide [Pr.eq (.slice (some ⟨gm, 0, none⟩) 2 2), Pr.eq (.pointer (some ⟨gm, 0, none⟩)), Pr.eq (.pointer (some ⟨g 0, 0, none⟩)), Pr.eq (.agg (hC (Hm.tag (key 0) (msg 0)))), Pr.eq (.pointer (some ⟨gk, 0, none⟩)), Pr.eq (.slice (K 0) (key 0).length (kc 0)), Pr.eq (.pointer (some ⟨ga, 0, none⟩)), Pr.eq (.slice (M 0) (msg 0).length (mc 0)), Pr.eq (.agg (hC (Hm.tag (key 0) (msg 0)))), Pr.eq (.bool true), Pr.eq (.bool true), Pr.eq (.slice (some ⟨gm, 0, none⟩) 2 2), Pr.eq (.pointer (some ⟨gm, 1, none⟩)), Pr.eq (.pointer (some ⟨g 1, 0, none⟩)), Pr.eq (.agg (hC (Hm.tag (key 1) (msg 1)))), Pr.eq (.pointer (some ⟨gk, 1, none⟩)), Pr.eq (.slice (K 1) (key 1).length (kc 1)), Pr.eq (.pointer (some ⟨ga, 1, none⟩)), Pr.eq (.slice (M 1) (msg 1).length (mc 1)), Pr.eq (.agg (hC (Hm.tag (key 1) (msg 1)))), Pr.eq (.bool true), Pr.eq (.bool true), Pr.eq (.bool true), Pr.eq (.pointer pv), Pr.eq (.int .i64 1), Pr.eq (.int .i64 1), Pr.eq (.bool true), Pr.eq (.bool true), Pr.eq (.bool true), Pr.eq (.pointer pv), Pr.eq (.agg (hC [])), Pr.eq (.agg (hC [])), Pr.eq (.bool true), Pr.eq (.bool true), Pr.eq (.bool true), Pr.eq (.pointer pv), Pr.eq (.pointer none), Pr.eq (.bool true), Pr.eq (.bool true), Pr.eq (.bool true), Pr.eq (.bool true), Pr.eq (.bool true), Pr.eq (.bool true)] (by kernel_rfl) (by kernel_rfl) (by kernel_rfl) (by kernel_rfl) (by kernel_rfl) ⟨?_, ?_, ?_, ?_, ?_, ?_, ?_, ?_, ?_, ?_, ?_, ?_, ?_, ?_, ?_, ?_, ?_, ?_, ?_, ?_, ?_, ?_, ?_, ?_, ?_, ?_, ?_, ?_, ?_, ?_, ?_, ?_, ?_, ?_, ?_, ?_, ?_, ?_, ?_, ?_, ?_, ?_, ?_, trivial⟩ ?_
          · exact fun ac W hL he => stepOk_want rfl (op_move rfl (he.keep (.tmp 8) (by kernel_rfl)))
          · exact fun ac W hL he => stepOk_want rfl (op_idx rfl (he.get 0 144 (by kernel_rfl) rfl) rfl (idxM0 gm W) rfl)
          · exact fun ac W hL he => stepOk_want rfl (op_load rfl (he.get 1 145 (by kernel_rfl) rfl) (loadM (((hT9.step hL).rm.cell 0).trans rfl)) rfl)
          · intro ac W hL he; refine stepOk_want rfl ?_; have e0 : ac.eval (.tmp 146) = .pointer (some ⟨g 0, 0, none⟩) := (he.get 2 146 (by kernel_rfl) rfl); exact op_callF (vs := #[.pointer (some ⟨g 0, 0, none⟩)]) rfl (by simp only [List.map_toArray, List.map_cons, List.map_nil, e0]) (enters_of Try.func21 (by kernel_rfl) rfl) ((macTag_any (g 0) (r 0) (key 0) (msg 0) W ((hT9.step hL).mac 0 (by decide)) (by have := hml 0 (by decide); omega)).mono fun e W' ⟨he', hb⟩ => ⟨_, he', hb, rfl⟩)
          · exact fun ac W hL he => stepOk_want rfl (op_idx rfl (he.keep (.tmp 10) (by kernel_rfl)) rfl (idxK0 gk W) rfl)
          · exact fun ac W hL he => stepOk_want rfl (op_load rfl (he.get 4 148 (by kernel_rfl) rfl) (loadB (((hT9.step hL).rk.cell 0).trans rfl)) rfl)
          · exact fun ac W hL he => stepOk_want rfl (op_idx rfl (he.keep (.tmp 11) (by kernel_rfl)) rfl (idxK0 ga W) rfl)
          · exact fun ac W hL he => stepOk_want rfl (op_load rfl (he.get 6 150 (by kernel_rfl) rfl) (loadB (((hT9.step hL).ra.cell 0).trans rfl)) rfl)
          · intro ac W hL he; refine stepOk_want rfl ?_; have e0 : ac.eval (.tmp 149) = .slice (K 0) (key 0).length (kc 0) := (he.get 5 149 (by kernel_rfl) rfl); have e1 : ac.eval (.tmp 151) = .slice (M 0) (msg 0).length (mc 0) := (he.get 7 151 (by kernel_rfl) rfl); exact op_callF (vs := #[.slice (K 0) (key 0).length (kc 0), .slice (M 0) (msg 0).length (mc 0)]) rfl (by simp only [List.map_toArray, List.map_cons, List.map_nil, e0, e1]) (enters_of Try.func11 (by kernel_rfl) rfl) ((refTag_any (K 0) (key 0).length (kc 0) (key 0) (M 0) (msg 0).length (mc 0) (msg 0) W rfl rfl (by have := (hT9.step hL).kl 0 (by decide); omega) (by have := hml 0 (by decide); omega) ((hT9.step hL).keyAt 0 (by decide)).cap ((hT9.step hL).keyAt 0 (by decide)).most ((hT9.step hL).keyAt 0 (by decide)).rd ((hT9.step hL).mr 0 (by decide)).rd).mono fun e W' ⟨he', hb⟩ => ⟨_, he', hb, rfl⟩)
          · exact fun ac W hL he => stepOk_want rfl (op_binOp rfl (he.get 3 147 (by kernel_rfl) rfl) (he.get 8 152 (by kernel_rfl) rfl) (eqgHash _ _ _ _ _ W) (eqlSame _ (Hm.tag_len _ _) W) rfl)
          · exact fun ac W hL he => stepOk_want rfl (op_move rfl (he.get 9 153 (by kernel_rfl) rfl))
          · exact fun ac W hL he => stepOk_yes (j := 10) (t := 154) (b := true) rfl rfl (he.get 10 154 (by kernel_rfl) rfl) (op_move rfl (he.keep (.tmp 8) (by kernel_rfl)))
          · exact fun ac W hL he => stepOk_yes (j := 10) (t := 154) (b := true) rfl rfl (he.get 10 154 (by kernel_rfl) rfl) (op_idx rfl (he.get 11 155 (by kernel_rfl) rfl) rfl (idxM1 gm W) rfl)
          · exact fun ac W hL he => stepOk_yes (j := 10) (t := 154) (b := true) rfl rfl (he.get 10 154 (by kernel_rfl) rfl) (op_load rfl (he.get 12 156 (by kernel_rfl) rfl) (loadM (((hT9.step hL).rm.cell 1).trans rfl)) rfl)
          · intro ac W hL he; refine stepOk_yes (j := 10) (t := 154) (b := true) rfl rfl (he.get 10 154 (by kernel_rfl) rfl) ?_; have e0 : ac.eval (.tmp 157) = .pointer (some ⟨g 1, 0, none⟩) := (he.get 13 157 (by kernel_rfl) rfl); exact op_callF (vs := #[.pointer (some ⟨g 1, 0, none⟩)]) rfl (by simp only [List.map_toArray, List.map_cons, List.map_nil, e0]) (enters_of Try.func21 (by kernel_rfl) rfl) ((macTag_any (g 1) (r 1) (key 1) (msg 1) W ((hT9.step hL).mac 1 (by decide)) (by have := hml 1 (by decide); omega)).mono fun e W' ⟨he', hb⟩ => ⟨_, he', hb, rfl⟩)
          · exact fun ac W hL he => stepOk_yes (j := 10) (t := 154) (b := true) rfl rfl (he.get 10 154 (by kernel_rfl) rfl) (op_idx rfl (he.keep (.tmp 10) (by kernel_rfl)) rfl (idxK1 gk W) rfl)
          · exact fun ac W hL he => stepOk_yes (j := 10) (t := 154) (b := true) rfl rfl (he.get 10 154 (by kernel_rfl) rfl) (op_load rfl (he.get 15 159 (by kernel_rfl) rfl) (loadB (((hT9.step hL).rk.cell 1).trans rfl)) rfl)
          · exact fun ac W hL he => stepOk_yes (j := 10) (t := 154) (b := true) rfl rfl (he.get 10 154 (by kernel_rfl) rfl) (op_idx rfl (he.keep (.tmp 11) (by kernel_rfl)) rfl (idxK1 ga W) rfl)
          · exact fun ac W hL he => stepOk_yes (j := 10) (t := 154) (b := true) rfl rfl (he.get 10 154 (by kernel_rfl) rfl) (op_load rfl (he.get 17 161 (by kernel_rfl) rfl) (loadB (((hT9.step hL).ra.cell 1).trans rfl)) rfl)
          · intro ac W hL he; refine stepOk_yes (j := 10) (t := 154) (b := true) rfl rfl (he.get 10 154 (by kernel_rfl) rfl) ?_; have e0 : ac.eval (.tmp 160) = .slice (K 1) (key 1).length (kc 1) := (he.get 16 160 (by kernel_rfl) rfl); have e1 : ac.eval (.tmp 162) = .slice (M 1) (msg 1).length (mc 1) := (he.get 18 162 (by kernel_rfl) rfl); exact op_callF (vs := #[.slice (K 1) (key 1).length (kc 1), .slice (M 1) (msg 1).length (mc 1)]) rfl (by simp only [List.map_toArray, List.map_cons, List.map_nil, e0, e1]) (enters_of Try.func11 (by kernel_rfl) rfl) ((refTag_any (K 1) (key 1).length (kc 1) (key 1) (M 1) (msg 1).length (mc 1) (msg 1) W rfl rfl (by have := (hT9.step hL).kl 1 (by decide); omega) (by have := hml 1 (by decide); omega) ((hT9.step hL).keyAt 1 (by decide)).cap ((hT9.step hL).keyAt 1 (by decide)).most ((hT9.step hL).keyAt 1 (by decide)).rd ((hT9.step hL).mr 1 (by decide)).rd).mono fun e W' ⟨he', hb⟩ => ⟨_, he', hb, rfl⟩)
          · exact fun ac W hL he => stepOk_yes (j := 10) (t := 154) (b := true) rfl rfl (he.get 10 154 (by kernel_rfl) rfl) (op_binOp rfl (he.get 14 158 (by kernel_rfl) rfl) (he.get 19 163 (by kernel_rfl) rfl) (eqgHash _ _ _ _ _ W) (eqlSame _ (Hm.tag_len _ _) W) rfl)
          · exact fun ac W hL he => stepOk_want rfl (op_pick (b := true) rfl (he.get 10 154 (by kernel_rfl) rfl) (he.get 20 164 (by kernel_rfl) rfl))
          · exact fun ac W hL he => stepOk_want rfl (op_move rfl (he.get 21 165 (by kernel_rfl) rfl))
          · exact fun ac W hL he => stepOk_yes (j := 22) (t := 166) (b := true) rfl rfl (he.get 22 166 (by kernel_rfl) rfl) (op_move rfl (he.keep (.tmp 14) (by kernel_rfl)))
          · exact fun ac W hL he => stepOk_yes (j := 22) (t := 166) (b := true) rfl rfl (he.get 22 166 (by kernel_rfl) rfl) (op_callF (vs := #[.pointer pv, .slice none 0 0]) rfl (by simp only [List.map_toArray, List.map_cons, List.map_nil, show ac.eval (.tmp 167) = .pointer pv from (he.get 23 167 (by kernel_rfl) rfl)]; rfl) (enters_of Try.func19 (by kernel_rfl) rfl) ((wMac_none pv (.slice none 0 0) W (hno.later hL)).mono fun e W' ⟨hw', he'⟩ => ⟨_, he', hw' ▸ Later.refl _, rfl⟩))
          · intro ac W hL he; refine stepOk_yes (j := 22) (t := 166) (b := true) rfl rfl (he.get 22 166 (by kernel_rfl) rfl) ?_; have e0 : ac.eval (.tmp 168) = .int .i64 1 := (he.get 24 168 (by kernel_rfl) rfl); exact op_callF (vs := #[.int .i64 1]) rfl (by simp only [List.map_toArray, List.map_cons, List.map_nil, e0]) (enters_of Try.func15 (by kernel_rfl) rfl) ((num2_any 1 W).mono fun e W' ⟨he', hw'⟩ => ⟨_, he', hw' ▸ Later.refl _, rfl⟩)
          · exact fun ac W hL he => stepOk_yes (j := 22) (t := 166) (b := true) rfl rfl (he.get 22 166 (by kernel_rfl) rfl) (op_binOp rfl (he.get 25 169 (by kernel_rfl) rfl) rfl eqgI (eqlI_me _ _ _) rfl)
          · exact fun ac W hL he => stepOk_want rfl (op_pick (b := true) rfl (he.get 22 166 (by kernel_rfl) rfl) (he.get 26 170 (by kernel_rfl) rfl))
          · exact fun ac W hL he => stepOk_want rfl (op_move rfl (he.get 27 171 (by kernel_rfl) rfl))
          · exact fun ac W hL he => stepOk_yes (j := 28) (t := 172) (b := true) rfl rfl (he.get 28 172 (by kernel_rfl) rfl) (op_move rfl (he.keep (.tmp 14) (by kernel_rfl)))
          · intro ac W hL he; refine stepOk_yes (j := 28) (t := 172) (b := true) rfl rfl (he.get 28 172 (by kernel_rfl) rfl) ?_; have e0 : ac.eval (.tmp 173) = .pointer pv := (he.get 29 173 (by kernel_rfl) rfl); exact op_callF (vs := #[.pointer pv]) rfl (by simp only [List.map_toArray, List.map_cons, List.map_nil, e0]) (enters_of Try.func21 (by kernel_rfl) rfl) ((tagMac_none2 pv W (hno.later hL)).mono fun e W' ⟨he', hb⟩ => ⟨_, he', hb, rfl⟩)
          · exact fun ac W hL he => stepOk_yes (j := 28) (t := 172) (b := true) rfl rfl (he.get 28 172 (by kernel_rfl) rfl) (op_buildR rfl (by simp) (buildHZ W) rfl)
          · exact fun ac W hL he => stepOk_yes (j := 28) (t := 172) (b := true) rfl rfl (he.get 28 172 (by kernel_rfl) rfl) (op_binOp rfl (he.get 30 174 (by kernel_rfl) rfl) (he.get 31 175 (by kernel_rfl) rfl) (eqgHash _ _ _ _ _ W) (eqlHZ W) rfl)
          · exact fun ac W hL he => stepOk_want rfl (op_pick (b := true) rfl (he.get 28 172 (by kernel_rfl) rfl) (he.get 32 176 (by kernel_rfl) rfl))
          · exact fun ac W hL he => stepOk_want rfl (op_move rfl (he.get 33 177 (by kernel_rfl) rfl))
          · exact fun ac W hL he => stepOk_yes (j := 34) (t := 178) (b := true) rfl rfl (he.get 34 178 (by kernel_rfl) rfl) (op_move rfl (he.keep (.tmp 14) (by kernel_rfl)))
          · intro ac W hL he; refine stepOk_yes (j := 34) (t := 178) (b := true) rfl rfl (he.get 34 178 (by kernel_rfl) rfl) ?_; have e0 : ac.eval (.tmp 179) = .pointer pv := (he.get 35 179 (by kernel_rfl) rfl); exact op_callF (vs := #[.pointer pv]) rfl (by simp only [List.map_toArray, List.map_cons, List.map_nil, e0]) (enters_of Try.func24 (by kernel_rfl) rfl) ((copyMac_none pv W (hno.later hL)).mono fun e W' ⟨hw', he'⟩ => ⟨_, he', hw' ▸ Later.refl _, rfl⟩)
          · exact fun ac W hL he => stepOk_yes (j := 34) (t := 178) (b := true) rfl rfl (he.get 34 178 (by kernel_rfl) rfl) (op_binOp rfl (he.get 36 180 (by kernel_rfl) rfl) rfl (by go_simp) (by go_simp) rfl)
          · exact fun ac W hL he => stepOk_want rfl (op_pick (b := true) rfl (he.get 34 178 (by kernel_rfl) rfl) (he.get 37 181 (by kernel_rfl) rfl))
          · exact fun ac W hL he => stepOk_want rfl (op_move rfl (he.get 38 182 (by kernel_rfl) rfl))
          · intro ac W hL he; refine stepOk_yes (j := 39) (t := 183) (b := true) rfl rfl (he.get 39 183 (by kernel_rfl) rfl) ?_; exact op_callF (vs := #[]) rfl (by simp) (enters_of Try.func10 (by kernel_rfl) rfl) ((works2_yes W).mono fun e W' ⟨he', hb⟩ => ⟨_, he', hb, rfl⟩)
          · exact fun ac W hL he => stepOk_want rfl (op_pick (b := true) rfl (he.get 39 183 (by kernel_rfl) rfl) (he.get 40 184 (by kernel_rfl) rfl))
          · exact fun ac W hL he => stepOk_want rfl (op_assign rfl (he.get 41 185 (by kernel_rfl) rfl))
          intro zs W9 hLw hzs
          have e185 := hzs 42 (by decide)
          have hLz := hT9.later.step hLw
          clear hzs hLw hT9 hno
          simp only [putL, Nat.reduceAdd, Act.put, List.setIfInBounds_toArray, List.set_cons_succ, List.set_cons_zero]
          rw [e185]
          go_wp2_with fail
          exact HΦ.out _ _ ⟨rfl, hLz⟩
theorem hmacPlays_walk (A1 : Option Addr) (n1 c1 : Nat) (one : List UInt8) (A2 : Option Addr) (n2 c2 : Nat) (two : List UInt8) (B : Option Addr) (m cb : Nat) (xs : List PActL) (w : World) (hi : InBytes w A1 n1 c1 one) (hj : InBytes w A2 n2 c2 two) (hk : InPActs w B m cb xs) :
    Calls Try.prog 8 #[.slice A1 n1 c1, .slice A2 n2 c2, .slice B m cb] w fun e w' => e = .returned (.bool true) ∧ Below w.heap.size w w' := by
  by_cases hout : 200 < n1 ∨ 200 < n2 ∨ 20 < m
  · exact plays_out A1 n1 c1 A2 n2 c2 B m cb w hout
  · exact plays_main A1 n1 c1 one A2 n2 c2 two B m cb xs w hi.len hi.cap hi.most hi.rd (by omega) hj.len hj.cap hj.most hj.rd (by omega) hk.len (by omega) hk.cap hk.most hk.rd
end Go.Proofs.Ytbjclmfhmdalkaa
