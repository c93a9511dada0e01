/- Walks, msgs: the law of what any body says. -/
import Derived.Test.YtcajhdmppfiaeaaGreatGl17
set_option linter.unusedVariables false
set_option linter.unusedSimpArgs false
namespace Go.Proofs.YtcajhdmppfiaeaaGreat
open Go.RowKit Ms
theorem own_void (w : World) (U : TypeId) (base : Nat) (hb : base ≤ w.heap.size) : Own U (w.alloc (.cells #[] U)) base (.slice (some ⟨w.heap.size, 0, none⟩) 0 0) [] :=
  ⟨rfl, .inr ⟨_, 0, _, rfl, hb, heap_alloc_new w _, Nat.le_refl _, by decide, rfl, rfl⟩⟩
theorem parseE_in (l : List UInt8) : 0 ≤ Ms.parseE l ∧ Ms.parseE l ≤ 1000000 := by
  unfold Ms.parseE
  split <;> decide
set_option maxRecDepth 100000 in
set_option maxHeartbeats 8000000 in
theorem msgsParses_main (A : Option Addr) (n ca : Nat) (l : List UInt8) (w : World) (hn3 : n ≤ 1000) (hn : l.length = n) (hc : n ≤ ca) (hcm : ca ≤ 9223372036854775807) (hr : Rd w A l) :
    Calls Tryz.prog 4 #[.slice A n ca] w fun e w' => e = .returned (.bool true) ∧ Below w.heap.size w w' := by
  have d1 : decide ((1000 : Int) < (n : Int)) = false := decide_eq_false (by omega)
  have d1' : decide (1000 < n) = false := decide_eq_false (by omega)
  refine Calls.post fun Φ HΦ => ?_
  have HN := Lib.hid hn
  have hkn : (l ++ [77]).length = n + 1 := by rw [List.length_append, hn]; rfl
  have HKN := Lib.hid hkn
  clear hn hkn
  go_enter Tryz.func4, Tryz.ntmps4
  go_upto_region 4 with (first
    | (at_builtin; refine wpList_append_bytes rfl (.tmp 12) (.tmp 13) 32 rfl w.heap.size 5 Tryz.underlying32 byteInfo _ [] rfl (own_void w _ _ (Nat.le_refl _)) A n ca l rfl HN.out (hr.alloc _) (by simp; omega) (by simp only [World.size_alloc]; omega) ?_; intro v1 w1 hown1 hg1 hat1; rw [List.nil_append] at hown1; have hL1 : Later w w1 := (below_new w (.cells #[] 5)).grown hg1 (by simp only [World.size_alloc]; omega) (fun j e => (own_void w 5 w.heap.size (Nat.le_refl _)).at_ j e |>.1))
    | (at_builtin; refine wpList_append_bytes rfl (.tmp 14) (.tmp 15) 32 rfl w.heap.size 5 Tryz.underlying32 byteInfo _ l rfl (hown1.alloc _) (some ⟨w1.heap.size, 0, none⟩) 1 1 [77] rfl rfl (Rd.byte1 rfl) (by rw [HN.out]; omega) (by have := hL1.size; simp only [World.size_alloc]; omega) ?_; intro v2 w2 hown2 hg2 hat2; have hL2 : Later w w2 := Below.grown (hL1.alloc _) hg2 (by have := hL1.size; simp only [World.size_alloc]; omega) (fun j e => (hown1.at_ j e).1); obtain ⟨gm, ck, rfl, hkg, hk1, hkm, hkr⟩ := hown2.form (by simp); rw [HKN.out] at hk1 ⊢; have hk2 : (n : Int) ≤ (ck : Int) := by omega)
    | fail)
  have hkey : Rd w2 (some ⟨gm, 0, none⟩) l := by
    have := hkr.take n
    rwa [List.take_append_of_le_length (by rw [HN.out]; exact Nat.le_refl _), List.take_of_length_le (by rw [HN.out]; exact Nat.le_refl _)] at this
  have h77 : w2.cell? ⟨gm, n, none⟩ = some (.int .u8 77) := by
    obtain ⟨b, o, e, hcx⟩ := hkr.at_ (k := n) (by rw [HKN.out]; omega)
    injection e with e
    injection e with e1 e2
    subst e1 e2
    rw [Nat.zero_add, List.getElem_append_right (by rw [HN.out]; exact Nat.le_refl _)] at hcx
    simpa [HN.out, byteV] using hcx
  have hra := hr.later hL2
  obtain ⟨S, hS⟩ : ∃ S, Ms.parse l = S := ⟨_, rfl⟩
  obtain ⟨E, hE⟩ : ∃ E, Ms.parseE l = E := ⟨_, rfl⟩
  have hSw : S.wf := hS ▸ parse_wf l
  have hEi : 0 ≤ E ∧ E ≤ 1000000 := hE ▸ parseE_in l
  have hp := mparse_any (some ⟨gm, 0, none⟩) n ck l w2 HN.out (by omega) hkey
  have hf := fun W (hX : Rd W A l) => refParse_any A n ca l W HN.out hc hcm (by omega) hX
  rw [hS, hE] at hp
  simp only [hS, hE] at hf
  have HP := Lib.hid hp
  have HF := Lib.hid hf
  clear hp hf hS hE hown1 hown2 hg1 hg2 hat1 hat2 hkr hL1 hr
  go_upto_region 5 with (first
    | (go_at_call 15; refine HP.out.mono ?_; rintro e w3 ⟨rfl, hb3⟩; obtain ⟨w4, hst, x4, hL4⟩ := newSaid w3 hSw)
    | (with_reducible refine wpList_alloc rfl 29 rfl (allocSaid _) ?_)
    | (guard_target =~ wpList _ _ _ (_ :: _) _ _; refine wpList_store rfl 29 (.tmp 4) (.tmp 23) rfl (.pointer (some ⟨w3.heap.size, 0, none⟩)) (.agg (saidC S)) rfl rfl hst ?_)
    | fail)
  obtain ⟨q4, hq4⟩ : ∃ q, q = w3.heap.size := ⟨_, rfl⟩
  rw [← hq4] at x4 ⊢
  have hN4 : Later w2 w4 := Later.step hb3 hL4
  have hkey4 := hkey.later hN4
  have hra4 := hra.later hN4
  have h774 := hN4.cell h77
  have hw4 : Later w w4 := hL2.step hN4
  have hf := HF.out w4 hra4
  clear hst hq4 hb3 hL4 hkey hra h77 hL2 hN4 HP HF
  have HFF := Lib.hid hf
  clear hf
  go_upto_region 6 with (first
    | (go_at_call 16; refine HFF.out.mono ?_; rintro e w5 ⟨rfl, hb5⟩; obtain ⟨w6, hst, x6, hL6⟩ := newSaid w5 hSw)
    | (with_reducible refine wpList_alloc rfl 29 rfl (allocSaid _) ?_)
    | (guard_target =~ wpList _ _ _ (_ :: _) _ _; refine wpList_store rfl 29 (.tmp 6) (.tmp 28) rfl (.pointer (some ⟨w5.heap.size, 0, none⟩)) (.agg (saidC S)) rfl rfl hst ?_)
    | fail)
  obtain ⟨q6, hq6⟩ : ∃ q, q = w5.heap.size := ⟨_, rfl⟩
  rw [← hq6] at x6 ⊢
  have hN6 : Later w4 w6 := Later.step hb5 hL6
  have hkey6 := hkey4.later hN6
  have hra6 := hra4.later hN6
  have h776 := hN6.cell h774
  have x46 := x4.later hN6
  have hw6 : Later w w6 := hw4.step hN6
  have hcv1 := strOf (c := ck) hkey6 HN.out
  have hcv2 := strOf (c := ca) hra6 HN.out
  have hl4 := loadSaid hSw x46
  have hl6 := loadSaid hSw x6
  have heq := eqlSaid hSw hSw w6
  rw [decide_eq_true (rfl : S = S)] at heq
  have hnum := num_n E w6 hEi
  have hA1 : (n : Int) + 1 ≤ (ck : Int) := by omega
  have hA2 : (0 : Int) ≤ (n : Int) + 1 := by omega
  have hA3 : (n : Int) < (n : Int) + 1 := by omega
  have hA4 : IntKind.i64.wrap ((n : Int) + 1) = (n : Int) + 1 := IntWalk.i64_in _ (by omega)
  have hA5 : ((n : Int) + 1).toNat = n + 1 := by omega
  have HEQ := Lib.hid heq
  have HL4 := Lib.hid hl4
  have HL6 := Lib.hid hl6
  have HNUM := Lib.hid hnum
  clear hst hq6 hb5 hL6 hkey4 hra4 h774 x4 x46 x6 hw4 hN6 HFF heq hl4 hl6 hnum hkey6 hra6 hSw hEi
  go_wp2_with (first
    | (guard_target =~ wpList _ _ _ (_ :: _) _ _; refine wpList_loadG rfl 29 (.tmp 4) rfl (.pointer (some ⟨q4, 0, none⟩)) rfl HL4.out ?_)
    | (guard_target =~ wpList _ _ _ (_ :: _) _ _; refine wpList_loadG rfl 29 (.tmp 6) rfl (.pointer (some ⟨q6, 0, none⟩)) rfl HL6.out ?_)
    | (guard_target =~ wpList _ _ _ (_ :: _) _ _; refine wpList_binG rfl .eql 29 _ (.tmp 48) (.tmp 49) rfl (.agg (saidC S)) (.agg (saidC S)) rfl rfl (by kernel_rfl) HEQ.out ?_)
    | (go_at_call 12; refine HNUM.out.mono ?_; rintro e w7 ⟨rfl, rfl⟩)
    | (go_at_call 9; refine (works_yes _).mono ?_; rintro e w8 ⟨rfl, hL8⟩)
    | fail)
  exact HΦ.out _ _ ⟨rfl, Later.step hw6 hL8⟩
theorem msgsParses_no (A : Option Addr) (n ca : Nat) (w : World) (hn3 : 1000 < n) :
    Calls Tryz.prog 4 #[.slice A n ca] w fun e w' => e = .returned (.bool true) ∧ Below w.heap.size w w' := by
  have d1 : decide ((1000 : Int) < (n : Int)) = true := decide_eq_true (by omega)
  have d1' : decide (1000 < n) = true := decide_eq_true (by omega)
  go_enter Tryz.func4, Tryz.ntmps4
  go_wp2_with (first
    | (go_at_call 9; refine (works_yes _).mono ?_; rintro e w8 ⟨rfl, hL8⟩)
    | fail)
  go_ret
  exact ⟨rfl, hL8⟩
theorem msgsParses_walk (A : Option Addr) (n ca : Nat) (l : List UInt8) (w : World) (h : InBytes w A n ca l) : Calls Tryz.prog 4 #[.slice A n ca] w fun e w' => e = .returned (.bool true) ∧ Below w.heap.size w w' := by
  by_cases hn : n ≤ 1000
  · exact msgsParses_main A n ca l w hn h.len h.cap h.most h.rd
  · exact msgsParses_no A n ca w (by omega)
end Go.Proofs.YtcajhdmppfiaeaaGreat
