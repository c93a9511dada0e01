/- The walk of the law CrcSums. -/
import Derived.Test.YtkgpagkhheglgaaCrcL2
namespace Go.Proofs.Ytkgpagkhheglgaa
open Go.RowKit
/-- A slice value that reads as bytes. -/
def Sl (w : World) (v : Value) (l : List UInt8) : Prop := ∃ A c, v = .slice A l.length c ∧ l.length ≤ c ∧ c ≤ maxLen ∧ Rd w A l
theorem Sl.drawn {w w' : World} {v : Value} {l : List UInt8} (h : Sl w v l) (hd : Drawn w w') : Sl w' v l := by
  obtain ⟨A, c, e, h1, h2, hr⟩ := h
  exact ⟨A, c, e, h1, h2, hr.below (hd.below _)⟩
theorem Sl.below {w w' : World} {v : Value} {l : List UInt8} (h : Sl w v l) (hb : Below w.heap.size w w') : Sl w' v l := by
  obtain ⟨A, c, e, h1, h2, hr⟩ := h
  exact ⟨A, c, e, h1, h2, hr.below hb⟩
theorem wf_u32 {a : Int} (h : (Lit.int .u32 a).wf = true) : ∃ s : BitVec 32, a = (s.toNat : Int) := by
  have hb := bounds_u32 h
  refine ⟨BitVec.ofNat 32 a.toNat, ?_⟩
  rw [BitVec.toNat_ofNat]
  omega
theorem Rd.tail {w : World} {b o : Nat} {x : UInt8} {l : List UInt8} (h : Rd w (some ⟨b, o, none⟩) (x :: l)) : Rd w (some ⟨b, o + 1, none⟩) l := by
  have := h.drop 1
  simpa [Addr.add] using this
theorem drop_flat (ls : List (List UInt8)) (i : Nat) (h : i < ls.length) : (ls.drop i).flatten = ls[i] ++ (ls.drop (i + 1)).flatten := by
  rw [List.drop_eq_getElem_cons h, List.flatten_cons]
theorem drop_cons (l : List UInt8) (k : Nat) (h : k < l.length) : l.drop k = l[k] :: l.drop (k + 1) := List.drop_eq_getElem_cons h
set_option maxRecDepth 100000 in
set_option maxHeartbeats 1000000 in
theorem crcSums_yes (A : Option Addr) (n c : Nat) (ls : List (List UInt8)) (s : BitVec 32) (w : World) (hn : ls.length = n) (h20 : n ≤ 20) (hs : ∀ l ∈ ls, l.length ≤ 200) (hr : Rds w A ls) :
    Calls Try.prog 3 #[.slice A n c, .int .u32 (s.toNat : Int)] w fun e w' => e = .returned (.bool true) ∧ Below w.heap.size w w' := by
  subst hn
  have HS := Lib.hid hs
  have hp : ∀ l ∈ ls, l.length ≤ 1099511627776 := fun l hl => by have := hs l hl; omega
  have hfl := flat_small ls 200 hs
  have hf2 : ls.flatten.length ≤ 1099511627776 := by
    have : ls.length * 200 ≤ 20 * 200 := Nat.mul_le_mul_right _ h20
    omega
  have HP := Lib.hid hp
  have HF2 := Lib.hid hf2
  clear hs hp hfl hf2
  have hsl := s.isLt
  go_enter Try.func3, Try.ntmps3
  go_wp2_with fail
  refine (few_yes A _ c 20 ls _ rfl h20 (by omega) HS.out hr).mono ?_
  rintro e w1 ⟨v1, rfl, hown1, hb1⟩
  have hsl1 : Sl w1 v1 ls.flatten := hown1.slice
  have hr1 := hr.below hb1
  clear hown1
  go_wp2_with fail
  refine (sum_any A _ c ls _ rfl (by omega) HP.out hr1).mono ?_
  rintro e w2 ⟨rfl, hb2⟩
  have hsl2 := hsl1.below hb2
  have hr2 := hr1.below hb2
  replace hb2 := below_step hb1 hb1.size hb2
  clear hsl1 hr1 hb1
  go_wp2_with fail
  refine (more_any s A _ c ls _ rfl (by omega) HP.out hr2).mono ?_
  rintro e w3 ⟨rfl, hb3⟩
  have hsl3 := hsl2.below hb3
  have hr3 := hr2.below hb3
  replace hb3 := below_step hb2 hb2.size hb3
  clear hsl2 hr2 hb2
  obtain ⟨S1, hS1⟩ : ∃ x, Crc.sum ls.flatten = x := ⟨_, rfl⟩
  obtain ⟨S2, hS2⟩ : ∃ x, Crc.more s ls.flatten = x := ⟨_, rfl⟩
  rw [hS1, hS2]
  have HS1 := Lib.hid hS1
  have HS2 := Lib.hid hS2
  clear hS1 hS2
  go_wp2_with fail
  go_loopw [5, 9] (fun v t wr => ∃ k : Nat, k ≤ ls.length ∧ t = .int .i64 k ∧ Sl w3 v (ls.drop k).flatten ∧ Drawn w3 wr) (fun _ t _ => ls.length - (intOf t).toNat)
  case atStart => exact ⟨0, by omega, rfl, hsl3, Drawn.refl _⟩
  case round =>
    obtain ⟨i, hi, rfl, hv, hd⟩ := hrel
    by_cases hlt : i < ls.length
    · obtain ⟨b, o, Ai, ci, rfl, hc1, hrd1⟩ := hr3.at_ hlt
      have hfd := drop_flat ls i hlt
      rw [hfd] at hv
      have h200 := HS.out ls[i] (List.getElem_mem hlt)
      clear hfd
      obtain ⟨rest, hrest⟩ : ∃ r, (ls.drop (i + 1)).flatten = r := ⟨_, rfl⟩
      rw [hrest] at hv
      have HR := Lib.hid hrest
      clear hrest
      generalize ls[i] = l at *
      go_wp2_with fail
      go_loopw [5, 10] (fun v t wr => ∃ k : Nat, k ≤ l.length ∧ t = .int .i64 k ∧ Sl w3 v (l.drop k ++ rest) ∧ Drawn w3 wr) (fun _ t _ => l.length - (intOf t).toNat)
      case atStart => exact ⟨0, by omega, rfl, hv, hd⟩
      case round =>
        clear hd hv
        obtain ⟨k, hk, rfl, hv, hd⟩ := hrel
        by_cases hlk : k < l.length
        · rw [drop_cons l k hlk, List.cons_append] at hv
          obtain ⟨A2, c2, rfl, hcc, hcm, hrd2⟩ := hv
          obtain ⟨b2, o2, rfl, hc2⟩ := hrd2.at_ (k := 0) (by simp)
          obtain ⟨b3, o3, rfl, hc3⟩ := hrd1.at_ hlk
          replace hc2 : wr.cell? ⟨b2, o2, none⟩ = some (.int .u8 (l[k].toNat : Int)) := (hd.cell _).trans hc2
          replace hc3 : wr.cell? ⟨b3, o3 + k, none⟩ = some (.int .u8 (l[k].toNat : Int)) := (hd.cell _).trans hc3
          replace hc1 : wr.cell? ⟨b, o + i, none⟩ = some (.slice (some ⟨b3, o3, none⟩) l.length ci) := (hd.cell _).trans hc1
          have hrd3 := hrd2.tail
          simp only [List.length_cons] at hcc ⊢
          obtain ⟨m, hm⟩ : ∃ m, l.drop (k + 1) ++ rest = m := ⟨_, rfl⟩
          rw [hm] at hrd3 hcc hrd2 ⊢
          have HM := Lib.hid hm
          clear hm hrd2
          have hne : ((l[k].toNat : Int) != (l[k].toNat : Int)) = false := by simp
          generalize l[k] = q at *
          have hi0 : (0 : Int) < (m.length : Int) + 1 := by omega
          by_cases hc1' : c2 = 1
          · subst hc1'
            obtain rfl : m = [] := List.eq_nil_of_length_eq_zero (by omega)
            go_wp2
            go_quiet (fail)
            go_wp2
            go_roundw
            case rel => exact ⟨k + 1, by omega, by go_num, by rw [HM.out]; exact ⟨some ⟨b2, o2, none⟩, 0, rfl, Nat.zero_le _, Nat.zero_le _, Rd.nil _ _⟩, hd.drewN _⟩
            case measure => simp [intOf]; omega
          · have hle1 : 1 ≤ c2 := by omega
            go_wp2
            go_quiet (fail)
            go_wp2
            go_roundw
            case rel => exact ⟨k + 1, by omega, by go_num, by rw [HM.out]; exact ⟨_, _, rfl, by omega, by omega, hrd3⟩, hd.drewN _⟩
            case measure => simp [intOf]; omega
        · obtain rfl : k = l.length := by omega
          have hdf : decide (l.length < l.length) = false := by simp
          rw [List.drop_length, List.nil_append] at hv
          replace hc1 : wr.cell? ⟨b, o + i, none⟩ = some (.slice Ai l.length ci) := (hd.cell _).trans hc1
          obtain ⟨A2, c2, rfl, hcc, hcm, hrd2⟩ := hv
          go_wp2
          go_roundw
          case rel => exact ⟨i + 1, by omega, by go_num, by rw [HR.out]; exact ⟨A2, c2, rfl, hcc, hcm, hrd2⟩, hd⟩
          case measure => simp [intOf]; omega
    · obtain rfl : i = ls.length := by omega
      have hr4 := hr3.below (hd.below _)
      replace hb3 := hb3.trans (hd.below _)
      clear hv hr3
      go_wp2_with fail
      refine (few_yes A _ c 20 ls _ rfl h20 (by omega) HS.out hr4).mono ?_
      rintro e w5 ⟨v5, rfl, hown5, hb5⟩
      obtain ⟨A5, c5, rfl, _, _, hrd5⟩ := hown5.slice
      replace hb5 := below_step hb3 hb3.size hb5
      clear hown5 hr4 hb3
      obtain ⟨F, hF⟩ : ∃ F, ls.flatten = F := ⟨_, rfl⟩
      rw [hF] at hrd5 ⊢
      have hFl : F.length ≤ 1099511627776 := by rw [← hF]; exact HF2.out
      have hE1 : Crc.sum F = S1 := by rw [← hF]; exact HS1.out
      have hE2 : Crc.more s F = S2 := by rw [← hF]; exact HS2.out
      have HE1 := Lib.hid hE1
      have HE2 := Lib.hid hE2
      clear hF hE1 hE2
      go_wp2_with fail
      refine (refSum_any A5 _ c5 F _ rfl hFl hrd5).mono ?_
      rintro e w' ⟨rfl, rfl⟩
      rw [HE1.out]
      have e1 : ((S1.toNat : Int) == (S1.toNat : Int)) = true := by simp
      go_wp2_with fail
      refine (refMore_any s A5 _ c5 F _ rfl hFl hrd5).mono ?_
      rintro e w' ⟨rfl, rfl⟩
      rw [HE2.out]
      have e2 : ((S2.toNat : Int) == (S2.toNat : Int)) = true := by simp
      go_wp2_with (first | (go_at_call 11; refine (works_any _).mono ?_; rintro e w6 ⟨rfl, hb6⟩))
      go_ret
      exact ⟨rfl, below_step hb5 hb5.size hb6⟩
theorem crcSums_walk (A : Option Addr) (n c : Nat) (ls : List (List UInt8)) (a : Int) (wa : (Lit.int .u32 a).wf = true) (w : World) (hi : InRows w A n c ls) :
    Calls Try.prog 3 #[.slice A n c, .int .u32 a] w fun e w' => e = .returned (.bool true) ∧ Below w.heap.size w w' := by
  obtain ⟨s, rfl⟩ := wf_u32 wa
  obtain ⟨hn, hc, hm, hsm, hr⟩ := hi
  unfold maxLen at hm hsm
  by_cases h20 : n ≤ 20
  · by_cases hs : ∀ l ∈ ls, l.length ≤ 200
    · exact crcSums_yes A n c ls s w hn h20 hs hr
    · have hs' : ∃ l ∈ ls, 200 < l.length := by simpa using hs
      have HX := Lib.hid (few_wide A n c 20 ls w hn h20 (by omega) hsm hs' hr)
      clear hs hs' hsm hn
      go_enter Try.func3, Try.ntmps3
      go_wp2_with fail
      refine HX.out.mono ?_
      rintro e w1 ⟨rfl, hb1⟩
      go_wp2_with (first | (go_at_call 11; refine (works_any _).mono ?_; rintro e w6 ⟨rfl, hb6⟩))
      go_ret
      exact ⟨rfl, below_step hb1 hb1.size hb6⟩
  · have HX := Lib.hid (few_long A n c 20 w (by omega) (by omega))
    clear hsm hn
    go_enter Try.func3, Try.ntmps3
    go_wp2_with fail
    refine HX.out.mono ?_
    rintro e w1 ⟨rfl, hb1⟩
    go_wp2_with (first | (go_at_call 11; refine (works_any _).mono ?_; rintro e w6 ⟨rfl, hb6⟩))
    go_ret
    exact ⟨rfl, below_step hb1 hb1.size hb6⟩
end Go.Proofs.Ytkgpagkhheglgaa
