/- Walks, route: Text. -/
import Derived.Test.YtloiaaolnfimgaaGreatRk24
import Derived.Test.YtloiaaolnfimgaaGreatRk30
set_option linter.unusedVariables false
set_option linter.unusedSimpArgs false
namespace Go.Proofs.YtloiaaolnfimgaaGreat
open Go.RowKit Rt
theorem build1S (w : World) (A : Option Addr) (n c : Nat) : (Instr.buildSlice 142 1 #[(0, .slice A n c)]).run Tryz.prog w = .ok (.slice (some ⟨w.heap.size, 0, none⟩) 1 1) (w.alloc (.cells #[.slice A n c] 60)) := by kernel_rfl
set_option maxRecDepth 100000 in
set_option maxHeartbeats 2000000 in
theorem rtext_any (h : Hop) (hw : h.wf) (w : World) : Calls Tryz.prog 16 #[.agg (hopC h)] w fun e w' => e = .returned (.tuple #[.string ⟨(Rt.text h).1.toArray⟩, .int .i64 (Rt.text h).2]) ∧ Below w.heap.size w w' := by
  refine Calls.post fun Φ HΦ => ?_
  have hbx := boxInv hw w
  have hr := Row.new w 51 (hopC h)
  have hld := loadInv hw hr
  have hL : Later w (w.alloc (.cells (hopC h) 51)) := below_new w _
  have h1 := fun W => rinvoice_any h hw W
  have HL := Lib.hid hL
  cases hok : okInv h with
  | false =>
    have ht : Rt.text h = ([], 2) := by unfold Rt.text; rw [hok]; rfl
    rw [ht] at HΦ
    simp only [hok] at h1
    clear hr hL hok ht
    go_enter Tryz.func16, Tryz.ntmps16
    go_wp2_with (first
      | (guard_target =~ wpList _ _ _ (_ :: _) _ _; refine wpList_box rfl 51 (.tmp 0) rfl (.agg (hopC h)) rfl hbx ?_)
      | (guard_target =~ wpList _ _ _ (_ :: _) _ _; refine wpList_load rfl 51 (.tmp 1) rfl (.pointer (some ⟨w.heap.size, 0, none⟩)) rfl hld ?_)
      | (go_at_call 53; refine (h1 _).mono ?_; rintro e w7 ⟨rfl, hL7⟩)
      | fail)
    exact HΦ.out _ _ ⟨rfl, HL.out.step hL7⟩
  | true =>
    have ht : Rt.text h = (markL ++ textOf (sealB (rawInv h)), 0) := by unfold Rt.text; rw [hok]; rfl
    rw [ht] at HΦ
    have HOK := Lib.hid hok
    simp only [hok] at h1
    have hnew := fun W => wnew_any W
    clear hL hok ht
    go_enter Tryz.func16, Tryz.ntmps16
    go_upto_region 4 with (first
      | (guard_target =~ wpList _ _ _ (_ :: _) _ _; refine wpList_box rfl 51 (.tmp 0) rfl (.agg (hopC h)) rfl hbx ?_)
      | (guard_target =~ wpList _ _ _ (_ :: _) _ _; refine wpList_load rfl 51 (.tmp 1) rfl (.pointer (some ⟨w.heap.size, 0, none⟩)) rfl hld ?_)
      | (go_at_call 53; refine (h1 _).mono ?_; rintro e w2 ⟨rfl, hL2⟩)
      | (go_at_call 54; refine (hnew _).mono ?_; rintro e w3 ⟨rfl, hw3, hL3, hlt3⟩)
      | fail)
    obtain ⟨g0, hg0⟩ : ∃ g, g = w.heap.size := ⟨_, rfl⟩
    rw [← hg0] at hr hld ⊢
    have hr3 := (hr.later hL2).later hL3
    have HL3 : Hid (Later w w3) := Lib.hid ((HL.out.step hL2).step hL3)
    obtain ⟨gw, hgw⟩ : ∃ g, g = w2.heap.size := ⟨_, rfl⟩
    rw [← hgw] at hw3 ⊢
    have hgg : g0 ≠ gw := by have := (hr.later hL2).lt; omega
    have hgw0 : w.heap.size ≤ gw := by have := (HL.out.step hL2).size; omega
    have hk3 := loadKeyR hw hr3
    have hn3 := loadNextR hw hr3
    have hbs := buildHs2 hw.1 hw.2 w3
    have L4 : Later w3 (w3.alloc (.cells ((hC h.key).toList ++ (hC h.next).toList).toArray 25)) := below_new w3 _
    have hrd4 := rdH_two hw.1 hw.2 w3
    have hw4 := hw3.later L4
    have hlt3' := hw3.lt.1
    have hcH := wHash_any gw none [] (some ⟨w3.heap.size, 0, none⟩) 2 2 [h.key, h.next] _ rfl (by decide) (fun x hx => by simp at hx; rcases hx with rfl | rfl; exact hw.1; exact hw.2) (by simp) hrd4 (fun b o e _ => by injection e with e; injection e with e1 e2; subst e1; exact ⟨by omega, by simp⟩) hw4
    clear hw3 hrd4 hw4 hg0 hgw hlt3
    go_upto_region 5 with (first
      | (guard_target =~ wpList _ _ _ (_ :: _) _ _; refine wpList_field rfl 51 (.tmp 1) 0 rfl (.pointer (some ⟨g0, 0, none⟩)) rfl fInv0 ?_)
      | (guard_target =~ wpList _ _ _ (_ :: _) _ _; refine wpList_field rfl 51 (.tmp 1) 1 rfl (.pointer (some ⟨g0, 0, none⟩)) rfl fInv1 ?_)
      | (guard_target =~ wpList _ _ _ (_ :: _) _ _; refine wpList_load rfl 25 (.tmp 14) rfl (.pointer (some ⟨g0, 0, none⟩)) rfl hk3 ?_)
      | (guard_target =~ wpList _ _ _ (_ :: _) _ _; refine wpList_load rfl 25 (.tmp 16) rfl (.pointer (some ⟨g0, 32, none⟩)) rfl hn3 ?_)
      | (guard_target =~ wpList _ _ _ (_ :: _) _ _; refine wpList_buildSl rfl 170 2 #[(0, .tmp 15), (1, .tmp 17)] rfl #[(0, .agg (hC h.key)), (1, .agg (hC h.next))] (by simp only [List.map_toArray, List.map_cons, List.map_nil]; rfl) hbs ?_; simp only [Act.put, List.setIfInBounds_toArray, List.set_cons_zero, List.set_cons_succ])
      | (go_at_call 55; refine hcH.mono ?_; clear hcH; rintro e w5 ⟨rfl, r5, hw5, hwr5⟩)
      | fail)
    have hr4 := hr3.later L4
    have hr5 := hr4.same hwr5.1 ⟨hr4.lt, hgg, by simp⟩
    have c64 := cHop2 hw hr5
    have c65 := cHop3 hw hr5
    have hl5 := hw5.lt
    have L6 : Later w5 (w5.alloc (.cells #[.int .i64 h.amt, .int .i64 h.exp] 2)) := below_new w5 _
    have hbi := buildI2 h.amt h.exp w5
    have hwg : [h.amt, h.exp].any Wr.wrong = false := by
      have := HOK.out
      unfold okInv at this
      simp only [Bool.and_eq_true, decide_eq_true_eq] at this
      simp [Wr.wrong]
      omega
    have hl64 : ([] ++ [h.key, h.next].flatten).length = 64 := by simp [hw.1, hw.2]
    have hcN := wNumber_any gw r5 _ (some ⟨w5.heap.size, 0, none⟩) 2 2 [h.amt, h.exp] _ rfl (by decide) (by rw [hl64]; decide) (rdI_two h.amt h.exp w5) (fun b o e _ => by injection e with e; injection e with e1 e2; subst e1; exact ⟨by have := hl5.1; omega, fun e3 => by have := hl5.2 _ e3.symm; omega⟩) (hw5.later L6)
    rw [hwg] at hcN
    clear hk3 hn3 hbs
    go_upto_region 6 with (first
      | (guard_target =~ wpList _ _ _ (_ :: _) _ _; refine wpList_field rfl 51 (.tmp 1) 2 rfl (.pointer (some ⟨g0, 0, none⟩)) rfl fInv2 ?_)
      | (guard_target =~ wpList _ _ _ (_ :: _) _ _; refine wpList_field rfl 51 (.tmp 1) 3 rfl (.pointer (some ⟨g0, 0, none⟩)) rfl fInv3 ?_)
      | (guard_target =~ wpList _ _ _ (_ :: _) _ _; refine wpList_buildSl rfl 101 2 #[(0, .tmp 22), (1, .tmp 24)] rfl #[(0, .int .i64 h.amt), (1, .int .i64 h.exp)] (by simp only [List.map_toArray, List.map_cons, List.map_nil]; rfl) hbi ?_; simp only [Act.put, List.setIfInBounds_toArray, List.set_cons_zero, List.set_cons_succ])
      | (go_at_call 56; refine hcN.mono ?_; clear hcN; rintro e w7 h7; obtain ⟨-, rfl, r7, hw7, hwr7⟩ := h7.resolve_left (fun h => Bool.noConfusion h.1))
      | fail)
    have hraw : ([] ++ [h.key, h.next].flatten ++ Wr.nums [h.amt, h.exp]) = rawInv h := by simp [rawInv, Wr.nums]
    rw [hraw] at hw7
    have hrl : (rawInv h).length ≤ 100 := by
      have := Wr.nums_len [h.amt, h.exp]
      rw [← hraw, List.length_append, hl64]
      simp at this ⊢
      omega
    have hall := wall_any gw r7 (rawInv h) w7 (by omega) hw7
    have hr7 : Row w7 g0 51 (hopC h) := by
      have h6 := hr5.later L6
      exact h6.same hwr7.1 ⟨h6.lt, hgg, fun e => (hwr5.2 _ e.symm).elim (fun h => nomatch h) (fun h => by have := hr4.lt; omega)⟩
    have hS7 : Below w.heap.size w w7 := by
      have s3 := Same.of_below HL3.out.below
      have s5 : Same (fun k => k < w.heap.size) w3 w5 := (Same.of_below L4.below |>.mono fun k hk => Nat.lt_of_lt_of_le hk HL3.out.size).trans (hwr5.1.mono fun k hk => ⟨by have := HL3.out.size; have := L4.size; omega, by omega, fun e => by cases e⟩)
      have s7 : Same (fun k => k < w.heap.size) w5 w7 := (Same.of_below L6.below |>.mono fun k hk => by have := HL3.out.size; have := s5.size; omega).trans (hwr7.1.mono fun k hk => ⟨by have := HL3.out.size; have := s5.size; have := L6.size; omega, by omega, fun e => (hwr5.2 _ e.symm).elim (fun h => nomatch h) (fun h => by have := HL3.out.size; have := L4.size; omega)⟩)
      exact (s3.trans (s5.trans s7)).below
    have HS7 := Lib.hid hS7
    clear hS7 hwr5 hwr7 L4 L6 hr4 hr5 hr7 hw7 HL3 HL
    obtain ⟨n8, hn8⟩ : ∃ n, (rawInv h).length = n := ⟨_, rfl⟩
    have hsf : ∀ (w8 : World) (A8 : Option Addr) (c8 : Nat), Rd w8 A8 (rawInv h) → Calls Tryz.prog 57 #[.slice (some ⟨w8.heap.size, 0, none⟩) 1 1] (w8.alloc (.cells #[.slice A8 n8 c8] 60)) fun e w' => ∃ v, e = .returned v ∧ Own 5 w' (w8.alloc (.cells #[.slice A8 n8 c8] 60)).heap.size v (sealB (rawInv h)) ∧ Below (w8.alloc (.cells #[.slice A8 n8 c8] 60)).heap.size (w8.alloc (.cells #[.slice A8 n8 c8] 60)) w' := fun w8 A8 c8 hr => by
      have h1 := seal_any (some ⟨w8.heap.size, 0, none⟩) 1 1 [rawInv h] (w8.alloc (.cells #[.slice A8 n8 c8] 60)) rfl (by decide) (by simp; omega) (fun l hl => by simp at hl; subst hl; omega) (Rds.one_at 60 rfl hr hn8)
      rw [show [rawInv h].flatten = rawInv h by simp] at h1
      exact h1
    rename_i K hK
    have HK := Lib.hid hK
    clear hK
    go_wp2_with (first
      | (go_at_call 58; refine hall.mono ?_; clear hall; rintro e w8 ⟨v8, rfl, hown8, hL8⟩; obtain ⟨A8, c8, rfl, hlc8, -, hrd8⟩ := hown8.slice; rw [hn8]; have hb8 := build1S w8 A8 n8 c8; have hsl := hsf w8 A8 c8 hrd8)
      | (guard_target =~ wpList _ _ _ (_ :: _) _ _; refine wpList_buildSl rfl 142 1 #[(0, .tmp 28)] rfl #[(0, .slice A8 n8 c8)] (by simp only [List.map_toArray, List.map_cons, List.map_nil]; rfl) hb8 ?_; simp only [Act.put, List.setIfInBounds_toArray, List.set_cons_zero, List.set_cons_succ])
      | (go_at_call 57; refine hsl.mono ?_; clear hsl; rintro e w9 ⟨v9, rfl, hown9, hb9⟩)
      | fail)
    have hne9 : sealB (rawInv h) ≠ [] := by
      intro e
      have := congrArg List.length e
      unfold sealB low4 at this
      simp at this
    obtain ⟨g9, c9, rfl, -, hlc9, -, hrd9⟩ := hown9.form hne9
    have hsl9 : (sealB (rawInv h)).length ≤ 1000 := by
      unfold sealB low4
      rw [List.length_append]
      simp
      omega
    refine HK.out _ _ (text_tail _ (by kernel_rfl) w _ g9 _ c9 (sealB (rawInv h)) rfl hsl9 hlc9 hrd9 ?_ _ (fun a' W' hd6 h2 h3 LR => ?_) _ _ _ _ _ _ _ _ _ _ _ _ _ _ _ _ _ _ _ _ _ _ _ _ _ _ _ _ _ _ _ _ _ _ _ _ _ _ _ _ _ _ _ _ _ _ _)
    · have h8 := (HS7.out.trans (hL8.below.mono HS7.out.size)).alloc (Nat.le_trans HS7.out.size hL8.size) (.cells #[.slice A8 n8 c8] 60)
      exact h8.trans (hb9.mono h8.size)
    · exact bodyPost_ret (by rw [results_tmp2 rfl a'.tmps, h2, h3]) hd6 (HΦ.out _ _ ⟨rfl, LR⟩)
end Go.Proofs.YtloiaaolnfimgaaGreat
