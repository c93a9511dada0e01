/- Walks: bytes that come to a sum under way. -/
import Derived.Test.YtfconncnccgenaaShaR2
set_option linter.unusedVariables false
set_option linter.unusedSimpArgs false
namespace Go.Proofs.Ytfconncnccgenaa
open Go.RowKit
theorem info5 : (Try.prog.info? 5).map (fun i => (i.zero, i.size, i.bytes)) = some (some (.int .u8 0), 1, 1) := by kernel_rfl
theorem sliceArr {g o a : Nat} {i : Int} (hi : i = (a : Int)) (h : a < 64) (W : World) : (Instr.sliceAt 42 (.pointer (some ⟨g, o, none⟩)) (some (.int .i64 i)) none none).run Try.prog W = .ok (.slice (some ⟨g, o + a, none⟩) (64 - a) (64 - a)) W := by
  subst hi
  obtain ⟨i, hi0, hz, hs, hb⟩ := info_parts info5
  have h1 : (a : Int) ≤ 64 := by omega
  have h2 : (0 : Int) ≤ (a : Int) := by omega
  have h3 : ¬ 64 = a := by omega
  simp [Instr.sliceAt, run_underlying Try.underlying42, Instr.sliceBounds, Instr.sliceBound, asIntOf, h1, h2, h3, sizeOf, typeInfo, hi0, hs]
  rw [show (Instr.sureAddr (Value.pointer (some ⟨g, o, none⟩))).run Try.prog W = .ok ⟨g, o, none⟩ W from rfl]
  simp only [Result.andThen_ok]
  rw [if_pos (by omega)]
  simp [Addr.add]
theorem fieldR0 {b : Nat} {W : World} : (Instr.fieldAt 77 (.pointer (some ⟨b, 0, none⟩)) 0).run Try.prog W = .ok (.pointer (some ⟨b, 0, none⟩)) W := by go_simp
theorem fieldR1 {b : Nat} {W : World} : (Instr.fieldAt 77 (.pointer (some ⟨b, 0, none⟩)) 1).run Try.prog W = .ok (.pointer (some ⟨b, 8, none⟩)) W := by go_simp
theorem sliceAll {g o : Nat} (W : World) : (Instr.sliceAt 42 (.pointer (some ⟨g, o, none⟩)) none none none).run Try.prog W = .ok (.slice (some ⟨g, o, none⟩) 64 64) W := by
  obtain ⟨i, hi0, hz, hs, hb⟩ := info_parts info5
  simp [Instr.sliceAt, run_underlying Try.underlying42, Instr.sliceBounds, sizeOf, typeInfo, hi0, hs]
  rw [show (Instr.sureAddr (Value.pointer (some ⟨g, o, none⟩))).run Try.prog W = .ok ⟨g, o, none⟩ W from rfl]
  simp [Addr.add]
theorem run_slice_from2 {P : Program} {t U : TypeId} {A : Option Addr} {n ca k : Nat} (ht : P.underlying t = some (.slice U)) (hi : ByteInfo P U) (h1 : k ≤ n) (h2 : n ≤ ca) :
    ∃ D, (∀ w : World, (Instr.slice t (.slice A n ca) (some (.int .i64 (k : Int))) none none).run P w = .ok (.slice D (n - k) (ca - k)) w) ∧ (∀ (W : World) (l : List UInt8), l.length = n → Rd W A l → Rd W D (l.drop k)) ∧ ∀ ad, D = some ad → ∃ ad', A = some ad' ∧ ad'.block = ad.block := by
  obtain ⟨i, hi0, hz, hs, hb⟩ := info_parts hi
  have he : P.elem t = U := by simp [Program.elem, ht]
  have ht' : P.underlying t = some (.slice (P.elem t)) := by rw [he]; exact ht
  refine ⟨if ca = k then A else A.map (·.add (k * 1)), fun w => ?_, fun W l hl hr => ?_, fun ad e => ?_⟩
  · rw [run_slice_l w t A n ca ht' .i64 (k : Int) (by omega) (by omega), he]
    simp [sizeOf, typeInfo, hi0, hs, sliced]
  · by_cases h : ca = k
    · have : l.drop k = [] := List.drop_eq_nil_of_le (by omega)
      rw [this]
      exact Rd.nil _ _
    · rw [if_neg h, Nat.mul_one]
      intro hne
      obtain ⟨b, o, e, hc⟩ := hr (by intro e; subst e; simp at hne)
      subst e
      refine ⟨b, o + k, by unfold Addr.add; simp, fun i hi' => ?_⟩
      rw [List.getElem_drop, Nat.add_assoc]
      exact hc (k + i) (by rw [List.length_drop] at hi'; omega)
  · split at e
    · exact ⟨ad, e, rfl⟩
    · rcases A with _ | x
      · cases e
      · refine ⟨x, rfl, ?_⟩
        have e2 : x.add (k * 1) = ad := Option.some.inj e
        rw [← e2]
        unfold Addr.add
        split <;> rfl
def lenV : Value → Nat
  | .slice _ n _ => n
  | _ => 0
set_option maxRecDepth 100000 in
set_option maxHeartbeats 4000000 in
theorem write_any (g : Nat) (l : List UInt8) (A : Option Addr) (n c : Nat) (b : List UInt8) (w : World) (hrun : IsRun w g l) (hb : b.length = n) (hcap : n ≤ c) (hmc : c ≤ 9223372036854775807) (hr : Rd w A b) (hne : ∀ ad, A = some ad → b ≠ [] → ad.block ≠ g) (hmax : l.length + n ≤ 1099511627776) :
    Calls Try.prog 26 #[.pointer (some ⟨g, 0, none⟩), .slice A n c] w fun e w' => e = .returned (.int .i64 0) ∧ IsRun w' g (l ++ b) ∧ w.grownBy w' (some g) := by
  have HB := Lib.hid hb
  have HRUN := Lib.hid hrun
  have HNE := Lib.hid hne
  clear hb hne
  go_enter Try.func26, Try.ntmps26
  go_wp2_with (first | (go_at_call 44; refine (none_no g l _ hrun).mono ?_; rintro e w' ⟨rfl, rfl⟩))
  clear hrun
  go_loopw [1, 5, 6] (fun s _ _ wr => ∃ (j : Nat) (Aj : Option Addr) (cj : Nat), j ≤ n ∧ s = .slice Aj (n - j) cj ∧ n - j ≤ cj ∧ cj ≤ 9223372036854775807 ∧ Rd wr Aj (b.drop j) ∧ (∀ ad, Aj = some ad → b.drop j ≠ [] → ad.block ≠ g) ∧ IsRun wr g (l ++ b.take j) ∧ w.grownBy wr (some g)) (fun s _ _ _ => lenV s)
  case atStart => exact ⟨0, A, c, by omega, rfl, by omega, by omega, by simpa using hr, by simpa using HNE.out, by simpa using HRUN.out, grown_refl _ _⟩
  case round =>
    obtain ⟨j, Aj, cj, hj, rfl, hcj, hmj, hrj, hnj, hrn, hgj⟩ := hrel
    clear hr
    obtain ⟨q, hq⟩ : ∃ q, l ++ b.take j = q := ⟨_, rfl⟩
    obtain ⟨bj, hbj⟩ : ∃ q, b.drop j = q := ⟨_, rfl⟩
    have hbl : bj.length = n - j := by rw [← hbj, List.length_drop, HB.out]
    have hql : q.length = l.length + j := by rw [← hq, List.length_append, List.length_take, HB.out]; omega
    rw [hq] at hrn
    rw [hbj] at hrj hnj
    obtain ⟨m, hm⟩ : ∃ m, n - j = m := ⟨_, rfl⟩
    rw [hm] at hbl hcj ⊢
    by_cases h0 : 0 < m
    · obtain ⟨p, hp, hpl, hrow⟩ := hrn
      obtain ⟨at_, hat⟩ : ∃ a, q.length % 64 = a := ⟨_, rfl⟩
      obtain ⟨k, hk⟩ : ∃ k, min m (64 - at_) = k := ⟨_, rfl⟩
      have hc72 := (hrow.cell 72).trans (runC_get72 _ _ _ hp)
      have hf72 := hrow.frozen 72
      rw [hat] at hpl
      have hat64 : at_ < 64 := by omega
      have hqb : q.length ≤ 1099511627776 := by omega
      have hqi : ((q.length : Nat) : Int) % 64 = (at_ : Int) := by omega
      obtain ⟨came, hcame⟩ : ∃ c, q.length = c := ⟨_, rfl⟩
      rw [hcame] at hc72 hqb hqi hrow
      have HQ := Lib.hid hcame
      have HK := Lib.hid hk
      have HQQ := Lib.hid hq
      have HBJ := Lib.hid hbj
      have HM := Lib.hid hm
      have HQL := Lib.hid hql
      have HAT := Lib.hid hat
      have HPL := Lib.hid hpl
      clear hcame hk hq hbj hm hql hat hpl
      have hsl := fun w' : World => sliceArr (g := g) (o := 8) (i := (at_ : Int)) rfl hat64 w'
      have hkm : k ≤ m := by have := HK.out; omega
      have hk64 : at_ + k ≤ 64 := by have := HK.out; omega
      obtain ⟨D, hslD, hDr, hDa⟩ := run_slice_from2 (P := Try.prog) (A := Aj) Try.underlying23 (info5 : ByteInfo Try.prog 5) hkm hcj
      have HDR := Lib.hid hDr
      have HDA := Lib.hid hDa
      obtain ⟨p2, hp2⟩ : ∃ p2, p.take at_ ++ (bj.take k ++ p.drop (at_ + k)) = p2 := ⟨_, rfl⟩
      have hbk : (bj.take k).length = k := by rw [List.length_take, hbl]; omega
      have hp2l : p2.length = 64 := by rw [← hp2]; simp only [List.length_append, List.length_take, List.length_drop, hp, hbl]; omega
      have hpart := runC_part (Sha.state q) p (bj.take k) came at_ hp (by rw [hbk]; exact hk64)
      rw [hbk, hp2] at hpart
      have hcm := runC_came (Sha.state q) p2 came (came + k) hp2l
      have hjn : bj.drop k = b.drop (j + k) := by rw [← HBJ.out, List.drop_drop]
      have hqn : q ++ bj.take k = l ++ b.take (j + k) := by rw [← HQQ.out, List.append_assoc, ← HBJ.out, List.take_add]
      have hqbl : (q ++ bj.take k).length = came + k := by rw [List.length_append, hbk, HQ.out]
      have HPART := Lib.hid hpart
      have HCM := Lib.hid hcm
      have HJN := Lib.hid hjn
      have HQN := Lib.hid hqn
      have HQBL := Lib.hid hqbl
      have HP2 := Lib.hid hp2
      have HBK := Lib.hid hbk
      have hcb : came + k ≤ 1099511627776 := by have := HM.out; have := HQL.out; have := HQ.out; omega
      clear hDr hDa hp2 hbk hpart hcm hjn hqn hqbl
      by_cases h64 : at_ + k = 64
      · have hb64 : (((at_ : Int) + (k : Int)) == 64) = true := by rw [beq_iff_eq]; omega
        have hstf := Sha.state_full q (bj.take k) (by rw [HBK.out, HAT.out]; exact h64)
        have hp2f : p2 = Sha.left q ++ bj.take k := by rw [← HP2.out, h64, List.drop_eq_nil_of_le (by omega), List.append_nil, HPL.out]
        rw [← hp2f] at hstf
        have HSTF := Lib.hid hstf
        have H64 := Lib.hid h64
        clear hstf hp2f h64
        go_upto_region 9 with (first
          | (refine wpList_copy_rd rfl (.tmp 21) (.tmp 22) 23 23 rfl 5 Try.underlying23 (by kernel_rfl) g (8 + at_) (64 - at_) (64 - at_) Aj m cj bj hbl hrj (by rfl) (by rfl) _ _ hrow k HK.out (by rw [runC_size _ _ _ hp]; have := HK.out; omega) ?_; intro w2 hrow2 hg2; rw [HPART.out] at hrow2; have hc72' := (hrow2.cell 72).trans (runC_get72 _ _ _ hp2l); have hf72' := hrow2.frozen 72))
        have hrow3 := hrow2.set 72 (intV (came + k))
        rw [HCM.out] at hrow3
        have hg3 := grown_trans hg2 (grown_set w2 g 72 (intV (came + k)))
        have hrd3 := HDR.out wr bj hbl hrj
        have hne3 : ∀ ad, D = some ad → bj.drop k ≠ [] → ad.block ≠ g := fun ad e hd => by
          obtain ⟨ad', e', eb⟩ := HDA.out ad e
          rw [← eb]
          exact hnj ad' e' (fun e2 => hd (by rw [e2]; simp))
        have hne4 : ∀ bb oo, D = some ⟨bb, oo, none⟩ → bj.drop k ≠ [] → some bb ≠ some g := fun bb oo e hd he => hne3 _ e hd (Option.some.inj he)
        have hrd4 := hrd3.grown hg3 hne4
        rw [show ((came : Int) + (k : Int)) = ((came + k : Nat) : Int) from by omega]
        generalize w2.setCell ⟨g, 72, none⟩ (intV (came + k)) = w3 at *
        refine (wpIn_wide (n := 0)).1 ?_
        refine wpIn_region_last wide_wide [Pr.eq (.pointer (some ⟨g, 0, none⟩)), Pr.eq (.pointer (some ⟨g, 0, none⟩)), Pr.eq (.pointer (some ⟨g, 0, none⟩)), Pr.eq (.pointer (some ⟨g, 0, none⟩)), Pr.eq (.pointer (some ⟨g, 0, none⟩)), Pr.eq (.pointer (some ⟨g, 8, none⟩)), Pr.eq (.slice (some ⟨g, 8, none⟩) 64 64)] (by kernel_rfl) (by kernel_rfl) (by kernel_rfl) (by kernel_rfl) (by kernel_rfl) (by kernel_rfl) rfl ⟨?_, ?_, ?_, ?_, ?_, ?_, ?_, trivial⟩ ?_
        · exact fun ac W hL he => stepOk_want rfl (op_move rfl (he.keep (.tmp 0) (by kernel_rfl)))
        · exact fun ac W hL he => stepOk_want rfl (op_nil rfl (he.get 0 39 (by kernel_rfl) rfl) rfl)
        · exact fun ac W hL he => stepOk_want rfl (op_fieldAddr rfl (he.get 1 40 (by kernel_rfl) rfl) fieldR0 rfl)
        · exact fun ac W hL he => stepOk_want rfl (op_move rfl (he.keep (.tmp 0) (by kernel_rfl)))
        · exact fun ac W hL he => stepOk_want rfl (op_nil rfl (he.get 3 42 (by kernel_rfl) rfl) rfl)
        · exact fun ac W hL he => stepOk_want rfl (op_fieldAddr rfl (he.get 4 43 (by kernel_rfl) rfl) fieldR1 rfl)
        · exact fun ac W hL he => stepOk_want rfl (op_slice (W' := W) rfl (he.get 5 44 (by kernel_rfl) rfl) (rfl : _ = none) (rfl : _ = none) rfl (sliceAll W) rfl)
        · intro xs w4 hL4 hx hk hg
          have e1 := hg 2 41 (by decide) (by kernel_rfl)
          have e2 := hg 6 45 (by decide) (by kernel_rfl)
          have v1 : xs 2 = .pointer (some ⟨g, 0, none⟩) := hx 2 (by decide)
          have v2 : xs 6 = .slice (some ⟨g, 8, none⟩) 64 64 := hx 6 (by decide)
          rw [v1] at e1
          rw [v2] at e2
          have hrow4 := hrow3.later hL4
          clear hx hk hg v1 v2
          refine last_callF (vs := #[.pointer (some ⟨g, 0, none⟩), .slice (some ⟨g, 8, none⟩) 64 64]) rfl (by simp only [List.map_toArray, List.map_cons, List.map_nil, e1, e2]) (enters_of Try.func38 (by kernel_rfl) rfl) ?_
          refine (block_any g 0 77 _ (Sha.state q) (some ⟨g, 8, none⟩) 64 p2 w4 hp2l (by omega) (by omega) (runC_rd hp2l hrow4) hrow4 (fun i hi => runC_state _ _ _ i hi)).mono ?_
          rintro e w5 ⟨rfl, hrow5, hg5⟩
          refine ⟨_, rfl, ?_⟩
          rw [runC_st, ← HSTF.out.1] at hrow5
          have hgA : wr.grownBy w5 (some g) := grown_trans hg3 (grown_trans (later_grown hL4 g) hg5)
          have hrd5 := (hrd4.later hL4).grown hg5 hne4
          have hir : IsRun w5 g (q ++ bj.take k) := ⟨p2, hp2l, by rw [HSTF.out.2, HQBL.out, show (came + k) % 64 = 0 from by have := HAT.out; have := HQ.out; have := H64.out; omega]; rfl, by rw [HQBL.out]; exact hrow5⟩
          rw [HQN.out] at hir
          rw [HJN.out] at hrd5 hne3
          clear hne4
          have hgB := grown_trans hgj hgA
          clear e1 e2 hrow2 hg2 hc72' hf72' hrow3 hg3 hrd3 hrd4 hrow4 hrow5 hg5 hgA
          simp only [initL, lastL, putL, Nat.reduceAdd, Act.put, List.setIfInBounds_toArray, List.set_cons_succ, List.set_cons_zero]
          go_wp2_with fail
          go_roundw
          case rel => exact ⟨j + k, D, cj - k, by have := HM.out; omega, by rw [show n - (j + k) = m - k from by have := HM.out; omega], by have := HM.out; omega, by omega, hrd5, hne3, hir, hgB⟩
          case measure => simp [lenV]; have := HK.out; omega
      · have hb64 : (((at_ : Int) + (k : Int)) == 64) = false := by rw [beq_eq_false_iff_ne]; omega
        have hstf := Sha.state_part q (bj.take k) (by rw [HBK.out, HAT.out]; omega)
        have hkm' : k = m := by have := HK.out; omega
        have hp2f : p2.take (at_ + k) = Sha.left q ++ bj.take k := by
          rw [← HP2.out, HPL.out, List.take_append, List.take_append, Sha.left_len, HAT.out, HBK.out]
          rw [List.take_of_length_le (by rw [Sha.left_len, HAT.out]; omega), List.take_of_length_le (l := bj.take k) (by rw [HBK.out]; omega), show at_ + k - at_ - k = 0 from by omega, List.take_zero, List.append_nil]
        have H64 := Lib.hid h64
        have HSTF := Lib.hid hstf
        have HP2F := Lib.hid hp2f
        have HKM := Lib.hid hkm'
        clear hstf hp2f h64 hkm'
        have hne3 : ∀ ad, D = some ad → bj.drop k ≠ [] → ad.block ≠ g := fun ad e hd => by
          obtain ⟨ad', e', eb⟩ := HDA.out ad e
          rw [← eb]
          exact hnj ad' e' (fun e2 => hd (by rw [e2]; simp))
        have hne4 : ∀ bb oo, D = some ⟨bb, oo, none⟩ → bj.drop k ≠ [] → some bb ≠ some g := fun bb oo e hd he => hne3 _ e hd (Option.some.inj he)
        have HN3 := Lib.hid hne3
        have HN4 := Lib.hid hne4
        have hrd3 := HDR.out wr bj hbl hrj
        clear hne3 hne4
        go_wp2_with (first
          | (refine wpList_copy_rd rfl (.tmp 21) (.tmp 22) 23 23 rfl 5 Try.underlying23 (by kernel_rfl) g (8 + at_) (64 - at_) (64 - at_) Aj m cj bj hbl hrj (by rfl) (by rfl) _ _ hrow k HK.out (by rw [runC_size _ _ _ hp]; have := HK.out; omega) ?_; intro w2 hrow2 hg2; rw [HPART.out] at hrow2; have hc72' := (hrow2.cell 72).trans (runC_get72 _ _ _ hp2l); have hf72' := hrow2.frozen 72))
        have hrow3 := hrow2.set 72 (intV (came + k))
        rw [HCM.out] at hrow3
        have hg3 := grown_trans hg2 (grown_set w2 g 72 (intV (came + k)))
        have hrd4 := hrd3.grown hg3 HN4.out
        have hne3 := HN3.out
        have hgB := grown_trans hgj hg3
        have hir : IsRun (w2.setCell ⟨g, 72, none⟩ (intV (came + k))) g (q ++ bj.take k) := ⟨p2, hp2l, by rw [HSTF.out.2, HQBL.out, show (came + k) % 64 = at_ + k from by have := HAT.out; have := HQ.out; have := H64.out; omega]; exact HP2F.out, by rw [HSTF.out.1, HQBL.out]; exact hrow3⟩
        rw [HQN.out] at hir
        rw [HJN.out] at hrd4 hne3
        rw [show ((came : Int) + (k : Int)) = ((came + k : Nat) : Int) from by omega]
        go_roundw
        case rel => exact ⟨j + k, D, cj - k, by have := HM.out; omega, by rw [show n - (j + k) = m - k from by have := HM.out; omega], by have := HM.out; omega, by omega, hrd4, hne3, hir, hgB⟩
        case measure => simp [lenV]; have := HK.out; omega
    · obtain rfl : m = 0 := by omega
      have hjn : j = n := by omega
      subst hjn
      rw [← hq, List.take_of_length_le (by rw [HB.out]; omega)] at hrn
      clear hq hbj hbl hql hrj hnj
      go_wp2
      go_ret
      exact ⟨rfl, hrn, hgj⟩
end Go.Proofs.Ytfconncnccgenaa
