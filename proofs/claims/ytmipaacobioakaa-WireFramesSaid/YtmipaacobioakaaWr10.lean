/- Walks: the reader's Text. -/
import Derived.Test.YtmipaacobioakaaWrH
set_option linter.unusedVariables false
set_option linter.unusedSimpArgs false
namespace Go.Proofs.Ytmipaacobioakaa
open Go.RowKit
def Wr.textOk (l : List UInt8) (most : Int) : Bool := decide (Wr.may l most) && decide ((Wr.first l).1 ≤ l.length - (Wr.first l).2.toNat)
def Wr.textAt (l : List UInt8) : List UInt8 := (l.drop (Wr.first l).2.toNat).take (Wr.first l).1
def Wr.textRest (l : List UInt8) : List UInt8 := (l.drop (Wr.first l).2.toNat).drop (Wr.first l).1
set_option maxRecDepth 100000 in
set_option maxHeartbeats 1000000 in
theorem textFn_any (g q1 q2 q3 : Nat) (T1 T2 T3 : TypeId) (A : Option Addr) (n c : Nat) (l : List UInt8) (most : Int) (s0 : Value) (w : World) (hn : l.length = n) (hc : n ≤ c) (hcm : c ≤ 9223372036854775807) (hr : Row w g 47 (rdC A n c true false)) (hd : Rd w A l)
    (k1 : Row w q1 T1 #[.pointer (some ⟨g, 0, none⟩)]) (k2 : Row w q2 T2 #[.int .i64 most]) (k3 : Row w q3 T3 #[s0]) (h1 : q1 ≠ g) (h3 : q3 ≠ g) :
    Calls Try.prog 55 #[.pointer (some ⟨q1, 0, none⟩), .pointer (some ⟨q2, 0, none⟩), .pointer (some ⟨q3, 0, none⟩)] w fun e w' => Same (fun k => k < w.heap.size ∧ k ≠ g ∧ k ≠ q3) w w' ∧ ((Wr.textOk l most = true ∧ e = .returned (.tuple #[]) ∧ Row w' q3 T3 #[.string ⟨(Wr.textAt l).toArray⟩] ∧ Moved w' g A l (Wr.textRest l) false) ∨ (Wr.textOk l most = false ∧ e = .panicked lacksP ∧ Row w' q3 T3 #[s0] ∧ ∃ D n' c', Row w' g 47 (rdC D n' c' true false))) := by
  have c1 : w.cell? ⟨q1, 0, none⟩ = some (.pointer (some ⟨g, 0, none⟩)) := (k1.cell 0).trans rfl
  have c2 : w.cell? ⟨q2, 0, none⟩ = some (.int .i64 most) := (k2.cell 0).trans rfl
  have hnu := rnumber_any g A n c l most w hn hc hcm hr hd
  have hid : ∀ w1, w.grownBy w1 (some g) → Same (fun k => k < w.heap.size ∧ k ≠ g ∧ k ≠ q3) w w1 := fun w1 hg => (Same.of_grown hg).mono (fun k h => ⟨h.1, fun e => h.2.1 (Option.some.inj e)⟩)
  have hk3 : ∀ w1, w.grownBy w1 (some g) → Row w1 q3 T3 #[s0] := fun w1 hg => k3.grown hg (fun e => h3 (Option.some.inj e))
  obtain ⟨hf1, hf2, hf3⟩ := Wr.first_le l
  have HN := Lib.hid hn
  clear hn
  by_cases hm : Wr.may l most
  · have HM := Lib.hid hm
    have hm2 := hm
    unfold Wr.may at hm2
    have hok : Wr.textOk l most = decide ((Wr.first l).1 ≤ n - (Wr.first l).2.toNat) := by rw [Wr.textOk, decide_eq_true hm, Bool.true_and, HN.out]
    have hat : Wr.textAt l = (l.drop (Wr.first l).2.toNat).take (Wr.first l).1 := rfl
    have hre : Wr.textRest l = (l.drop (Wr.first l).2.toNat).drop (Wr.first l).1 := rfl
    rw [hok, hat, hre]
    clear hm hok hat hre
    generalize Wr.first l = F at *
    obtain ⟨f, s⟩ := F
    obtain ⟨hk, hle⟩ := hm2
    obtain ⟨k, rfl⟩ : ∃ k : Nat, s = k := ⟨s.toNat, by have : 0 < s := hk; omega⟩
    replace hf1 : (k : Int) ≤ l.length := hf1
    replace hf3 : f ≤ 4611686018427387904 := hf3
    have hkn : k ≤ n := by rw [← HN.out]; omega
    simp only [Int.toNat_natCast] at hnu ⊢
    by_cases hfl : f ≤ n - k
    · have hd1 : decide ((f : Int) ≤ ((n - k : Nat) : Int)) = true := decide_eq_true (by omega)
      rw [decide_eq_true hfl]
      go_enter Try.func55, Try.ntmps55
      go_upto_region 1 with (first
        | (go_at_call 50; refine hnu.mono ?_; clear hnu; rintro e w1 ⟨hg1, ⟨_, rfl, D, kg, hD⟩ | ⟨hmn, _⟩⟩; rotate_left; exact absurd HM.out hmn)
        | fail)
      have k11 := k1.grown hg1 (fun e => h1 (Option.some.inj e))
      have c11 : w1.cell? ⟨q1, 0, none⟩ = some (.pointer (some ⟨g, 0, none⟩)) := (k11.cell 0).trans rfl
      have cg1 : w1.cell? ⟨g, 0, none⟩ = some (.slice D (n - k) (c - k)) := (kg.cell 0).trans rfl
      have hrd1 := hD _ (hd.grown_g hr hg1)
      have htk := rtake_any g D (n - k) (c - k) false (l.drop k) f w1 (by rw [List.length_drop, HN.out]) (by omega) (by omega) (by omega) kg hrd1
      have KG := Lib.hid kg
      have HD := Lib.hid hD
      clear kg hD
      go_upto_region 2 with (first
        | (go_at_call 53; refine (must_any _ _).mono ?_; rintro e w2 ⟨rfl, rfl⟩)
        | fail)
      go_wp2_with (first
        | (go_at_call 52; refine htk.mono ?_; clear htk; rintro e w3 (⟨_, rfl, hD2, hg2⟩ | ⟨h, _⟩); rotate_left; exact absurd h (by omega); have hcv := run_string_rd (P := Try.prog) w3 22 9 5 D f (c - k) ((l.drop k).take f) Try.underlying22 Try.underlying5 Try.underlying9 (by rw [List.length_take, List.length_drop, HN.out]; omega) (Rd.take (hrd1.grown_g KG.out hg2) f); have k33 := (hk3 _ (grown_trans hg1 hg2)); have c3 : w3.cell? ⟨q3, 0, none⟩ = some s0 := (k33.cell 0).trans rfl; have f3 : w3.frozen? ⟨q3, 0, none⟩ = false := k33.frozen 0; have K3 := Lib.hid k33; have HD2 := Lib.hid hD2; have HG := Lib.hid (grown_trans hg1 hg2); clear k33 hD2 hg2)
        | fail)
      go_end0
      obtain ⟨D2, hD2, hDr⟩ := HD2.out
      have hs3 := Same.set w3 ⟨q3, 0, none⟩ (.string ⟨((l.drop k).take f).toArray⟩)
      have hl3 : ((l.drop k).drop f).length = n - k - f := by rw [List.length_drop, List.length_drop, HN.out]
      exact ⟨(hid _ HG.out).trans (hs3.mono (fun k h => h.2.2)), .inl ⟨trivial, rfl, K3.out.set 0 _, Moved.far ⟨D2, c - k - f, by rw [hl3]; exact hD2, by rw [hl3]; omega, by omega, fun X hX => hDr X (HD.out X hX)⟩ (fun e => h3 e.symm) _⟩⟩
    · have hd1 : decide ((f : Int) ≤ ((n - k : Nat) : Int)) = false := decide_eq_false (by omega)
      rw [decide_eq_false hfl]
      go_enter Try.func55, Try.ntmps55
      go_upto_region 1 with (first
        | (go_at_call 50; refine hnu.mono ?_; clear hnu; rintro e w1 ⟨hg1, ⟨_, rfl, D, kg, hD⟩ | ⟨hmn, _⟩⟩; rotate_left; exact absurd HM.out hmn)
        | fail)
      have k11 := k1.grown hg1 (fun e => h1 (Option.some.inj e))
      have c11 : w1.cell? ⟨q1, 0, none⟩ = some (.pointer (some ⟨g, 0, none⟩)) := (k11.cell 0).trans rfl
      have cg1 : w1.cell? ⟨g, 0, none⟩ = some (.slice D (n - k) (c - k)) := (kg.cell 0).trans rfl
      have KG := Lib.hid kg
      clear kg hD
      go_wp2_with (first
        | (go_at_call 53; refine (must_any _ _).mono ?_; rintro e w2 ⟨rfl, rfl⟩)
        | fail)
      exact ⟨rfl, hid _ hg1, .inr ⟨trivial, rfl, hk3 _ hg1, D, _, _, KG.out⟩⟩
  · have hok : Wr.textOk l most = false := by simp [Wr.textOk, hm]
    rw [hok]
    have HM := Lib.hid hm
    clear hm hok
    go_enter Try.func55, Try.ntmps55
    go_wp2_with (first
      | (go_at_call 50; refine hnu.mono ?_; clear hnu; rintro e w1 ⟨hg1, ⟨hmn, _⟩ | ⟨_, rfl, kg⟩⟩; exact absurd hmn HM.out)
      | fail)
    exact ⟨rfl, hid _ hg1, .inr ⟨trivial, rfl, hk3 _ hg1, A, n, c, kg⟩⟩
def Wr.textR (l : List UInt8) (bad : Bool) (most : Int) : (List UInt8 × Bool) × List UInt8 × Int :=
  if bad then ((l, true), [], 140) else if most < 0 then ((l, false), [], 2) else if Wr.textOk l most then ((Wr.textRest l, false), Wr.textAt l, 0) else ((l, true), [], 140)
theorem Wr.textR_eq (l : List UInt8) (bad : Bool) (most : Int) : Wr.tried l (Wr.textRest l) bad (if most < 0 then 2 else 0) (Wr.textOk l most) = ((Wr.textR l bad most).1, (Wr.textR l bad most).2.2) := by
  unfold Wr.tried Wr.textR
  by_cases h : most < 0 <;> cases bad <;> cases Wr.textOk l most <;> simp [h]
theorem loadInt {b o : Nat} {x : Int} {W : World} (hc : W.cell? ⟨b, o, none⟩ = some (.int .i64 x)) : (Instr.loadAt 3 (.pointer (some ⟨b, o, none⟩))).run Try.prog W = .ok (.int .i64 x) W := by
  go_simp
theorem loadStr {b o : Nat} {x : ByteArray} {W : World} (hc : W.cell? ⟨b, o, none⟩ = some (.string x)) : (Instr.loadAt 9 (.pointer (some ⟨b, o, none⟩))).run Try.prog W = .ok (.string x) W := by
  go_simp
set_option maxRecDepth 100000 in
set_option maxHeartbeats 2000000 in
theorem text_any (g : Nat) (l : List UInt8) (bad : Bool) (most : Int) (w : World) (hr : IsRd w g l bad) :
    Calls Try.prog 22 #[.pointer (some ⟨g, 0, none⟩), .int .i64 most] w fun e w' => Same (fun k => k < w.heap.size ∧ k ≠ g) w w' ∧ e = .returned (.tuple #[.string ⟨(Wr.textR l bad most).2.1.toArray⟩, .int .i64 (Wr.textR l bad most).2.2]) ∧ IsRd w' g (Wr.textR l bad most).1.1 (Wr.textR l bad most).1.2 := by
  obtain ⟨A, c, hrow, hc, hcm, hd⟩ := hr
  have k2 := ((Row.new w 37 #[.pointer (some ⟨g, 0, none⟩)]).alloc (.cells #[.int .i64 most] 3)).alloc (.cells #[.string ⟨#[]⟩] 9)
  have k3 := (Row.new (w.alloc (.cells #[.pointer (some ⟨g, 0, none⟩)] 37)) 3 #[.int .i64 most]).alloc (.cells #[.string ⟨#[]⟩] 9)
  have k4 := Row.new ((w.alloc (.cells #[.pointer (some ⟨g, 0, none⟩)] 37)).alloc (.cells #[.int .i64 most] 3)) 9 #[.string ⟨#[]⟩]
  have hb := (((Later.refl w).alloc (.cells #[.pointer (some ⟨g, 0, none⟩)] 37)).alloc (.cells #[.int .i64 most] 3)).alloc (.cells #[.string ⟨#[]⟩] 9)
  have hgl := hrow.lt
  have HRW := Lib.hid hrow
  clear hrow
  have htook : (Wr.took bad (if most < 0 then 2 else 0) (Wr.textOk l most) = true ∧ (Wr.textR l bad most).2.1 = Wr.textAt l) ∨ (Wr.took bad (if most < 0 then 2 else 0) (Wr.textOk l most) = false ∧ (Wr.textR l bad most).2.1 = []) := by
    unfold Wr.took Wr.textR
    by_cases h : most < 0 <;> cases bad <;> cases Wr.textOk l most <;> simp [h]
  have hE := Wr.textR_eq l bad most
  generalize Wr.textR l bad most = R at *
  obtain ⟨⟨l', bad'⟩, v, no⟩ := R
  have HTO := Lib.hid htook
  have HE := Lib.hid hE
  clear htook hE
  go_enter Try.func22, Try.ntmps22
  go_upto_region 1 with fail
  simp only [World.size_alloc] at k3 k4
  obtain ⟨q2, hq2⟩ : ∃ q, q = w.heap.size := ⟨_, rfl⟩
  rw [← hq2] at k2 k3 k4 ⊢
  have HQ := Lib.hid hq2
  clear hq2
  generalize ((w.alloc (.cells #[.pointer (some ⟨g, 0, none⟩)] 37)).alloc (.cells #[.int .i64 most] 3)).alloc (.cells #[.string ⟨#[]⟩] 9) = w1 at *
  have kg := HRW.out.later hb
  refine (wpIn_wide (n := 0)).1 ?_
  refine wpIn_region_last2 wide_wide [Pr.eq (.pointer (some ⟨g, 0, none⟩)), Pr.eq (.int .i64 most), Pr.eq (.int .i64 (if most < 0 then 2 else 0)), Pr.eq (.func (.func 55) #[] #[.pointer (some ⟨q2, 0, none⟩), .pointer (some ⟨q2 + 1, 0, none⟩), .pointer (some ⟨q2 + 1 + 1, 0, none⟩)])] (by kernel_rfl) (by kernel_rfl) (by kernel_rfl) (by kernel_rfl) (by kernel_rfl) (by kernel_rfl) rfl rfl (by kernel_rfl) ⟨?_, ?_, ?_, ?_, trivial⟩ ?_
  · exact fun ac W hL he => stepOk_want rfl (op_load rfl (he.keep (.tmp 2) (by kernel_rfl)) (loadPR (((k2.later hL).cell 0).trans rfl)) rfl)
  · exact fun ac W hL he => stepOk_want rfl (op_load rfl (he.keep (.tmp 3) (by kernel_rfl)) (loadInt (((k3.later hL).cell 0).trans rfl)) rfl)
  · intro ac W hL he; refine stepOk_want rfl ?_; have e0 : ac.eval (.tmp 7) = .int .i64 most := (he.get 1 7 (by kernel_rfl) rfl); exact op_callF (vs := #[.int .i64 most]) rfl (by simp only [List.map_toArray, List.map_cons, List.map_nil, e0]) (enters_of Try.func48 (by kernel_rfl) rfl) ((bound_any most W).mono fun e W' ⟨hw', he'⟩ => ⟨_, he', hw' ▸ Later.refl _, rfl⟩)
  · intro ac W hL he; refine stepOk_want rfl (op_makeFunc rfl ?_ rfl); simp only [List.map_toArray, List.map_cons, List.map_nil, (he.keep (.tmp 2) (by kernel_rfl)), (he.keep (.tmp 3) (by kernel_rfl)), (he.keep (.tmp 4) (by kernel_rfl))]; rfl
  · intro xs W hL hx hk hg
    have e6 := hg 0 6 (by decide) (by kernel_rfl)
    have e8 := hg 2 8 (by decide) (by kernel_rfl)
    have e9 := hg 3 9 (by decide) (by kernel_rfl)
    have v6 : xs 0 = .pointer (some ⟨g, 0, none⟩) := hx 0 (by decide)
    have v8 : xs 2 = .int .i64 (if most < 0 then 2 else 0) := hx 2 (by decide)
    have v9 : xs 3 = .func (.func 55) #[] #[.pointer (some ⟨q2, 0, none⟩), .pointer (some ⟨q2 + 1, 0, none⟩), .pointer (some ⟨q2 + 1 + 1, 0, none⟩)] := hx 3 (by decide)
    rw [v6] at e6
    rw [v8] at e8
    rw [v9] at e9
    have k2 := k2.later hL
    have k3 := k3.later hL
    have k4 := k4.later hL
    have kg := kg.later hL
    have hb := hb.step hL
    have hq4 := k4.lt
    have hne : q2 + 1 + 1 ≠ g := by have := HQ.out; omega
    have hne2 : q2 ≠ g := by have := HQ.out; omega
    refine last2_callK (vs := #[.pointer (some ⟨g, 0, none⟩), .int .i64 (if most < 0 then 2 else 0), .func (.func 55) #[] #[.pointer (some ⟨q2, 0, none⟩), .pointer (some ⟨q2 + 1, 0, none⟩), .pointer (some ⟨q2 + 1 + 1, 0, none⟩)]]) rfl (by simp only [List.map_toArray, List.map_cons, List.map_nil, e6, e8, e9]) (enters_of Try.func47 (by kernel_rfl) rfl) rfl (fun _ => rfl) ?_
    have htry := try_moved g A l.length c l (Wr.textRest l) bad (if most < 0 then 2 else 0) _ #[.pointer (some ⟨q2, 0, none⟩), .pointer (some ⟨q2 + 1, 0, none⟩), .pointer (some ⟨q2 + 1 + 1, 0, none⟩)] W kg rfl hc hcm (q2 + 1 + 1) hq4 (fun W => Row W (q2 + 1 + 1) 9 #[.string ⟨#[]⟩]) (fun W => Row W (q2 + 1 + 1) 9 #[.string ⟨(Wr.textAt l).toArray⟩]) k4 (fun _ _ h hs => h.same hs ⟨hq4, hne⟩) (fun _ _ h hs => h.same hs ⟨hq4, hne⟩) (enters_of Try.func55 (by kernel_rfl) rfl _) (Wr.textOk l most) (fun hbad _ W1 hb1 => by
      subst hbad
      exact textFn_any g q2 (q2 + 1) (q2 + 1 + 1) _ _ _ A l.length c l most _ W1 rfl hc hcm (kg.later hb1) (hd.later (Later.step hb hb1)) (k2.later hb1) (k3.later hb1) (k4.later hb1) hne2 hne)
    rw [HE.out] at htry
    refine htry.mono ?_
    clear htry hx hg v6 v8 v9 e6 e8 e9
    rintro e w2 ⟨hs, rfl, hm, hR1, hR0⟩
    have k22 : Row w2 (q2 + 1 + 1) 9 #[.string ⟨v.toArray⟩] := by
      rcases HTO.out with ⟨h, h'⟩ | ⟨h, h'⟩
      · have := hR1 h
        simp only at h'
        rw [h']
        exact this
      · have := hR0 h
        simp only at h'
        rw [h']
        exact this
    clear hR1 hR0 k2 k3 k4 kg
    refine ⟨_, rfl, ?_⟩
    have c4 : w2.cell? ⟨q2 + 1 + 1, 0, none⟩ = some (.string ⟨v.toArray⟩) := (k22.cell 0).trans rfl
    have f4 : w2.frozen? ⟨q2 + 1 + 1, 0, none⟩ = false := k22.frozen 0
    have K2 := Lib.hid k22
    have HM := Lib.hid hm
    have HS := Lib.hid hs
    have HB := Lib.hid hb
    clear k22 hm hs hb
    simp only [init2, pen2, last2, putL, Nat.reduceAdd, Act.put, List.setIfInBounds_toArray, List.set_cons_succ, List.set_cons_zero]
    go_wp2_with fail
    have k5 := K2.out.set 0 (.string ⟨v.toArray⟩)
    have hcv : (w2.setCell ⟨q2 + 1 + 1, 0, none⟩ (.string ⟨v.toArray⟩)).cell? ⟨q2 + 1 + 1, 0, none⟩ = some (.string ⟨v.toArray⟩) := (k5.cell 0).trans rfl
    have hst := Same.set w2 ⟨q2 + 1 + 1, 0, none⟩ (.string ⟨v.toArray⟩)
    have hq := HQ.out
    have hs0 : Same (fun k => k < w.heap.size ∧ k ≠ g) w (w2.setCell ⟨q2 + 1 + 1, 0, none⟩ (.string ⟨v.toArray⟩)) := (((Same.of_below HB.out).mono (fun k h => h.1)).trans (HS.out.mono (fun k h => ⟨Nat.lt_of_lt_of_le h.1 HB.out.size, h.2, by have := h.1; omega⟩))).trans (hst.mono (fun k h => by show k ≠ q2 + 1 + 1; have := h.1; omega))
    exact bodyPost_ret (v := .tuple #[.string ⟨v.toArray⟩, .int .i64 no]) (by simp [results, Try.results22, go_sem, hcv]) rfl ⟨hs0, rfl, (HM.out.far (p := ⟨q2 + 1 + 1, 0, none⟩) (fun e => hne e.symm) _).isRd (rd_same_g HRW.out hd hs0)⟩
end Go.Proofs.Ytmipaacobioakaa
