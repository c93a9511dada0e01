/- Walks: the hash of bytes under a name, by the document. -/
import Derived.Test.YtfconncnccgenaaShaE
import Derived.Test.YtfconncnccgenaaShaCv
set_option linter.unusedVariables false
set_option linter.unusedSimpArgs false
namespace Go.Proofs.Ytfconncnccgenaa
open Go.RowKit
set_option maxRecDepth 100000 in
set_option maxHeartbeats 2000000 in
theorem refNamed_any (s : List UInt8) (A : Option Addr) (n ca : Nat) (l : List UInt8) (w : World) (hs : s.length ≤ 10000000) (hn : l.length = n) (hm : n ≤ 10000000) (hr : Rd w A l) :
    Calls Try.prog 23 #[.string ⟨s.toArray⟩, .slice A n ca] w fun e w' => e = .returned (.agg (hC (Sha.sum (Sha.sum s ++ Sha.sum s ++ l)))) ∧ Below w.heap.size w w' := by
  obtain ⟨tag, htag⟩ : ∃ y, Sha.sum s = y := ⟨_, rfl⟩
  have htl : tag.length = 32 := by rw [← htag]; exact Sha.sum_len _
  have hrowA := Row.new w 26 (hC [])
  have hbA := below_new w (.cells (hC []) 26)
  obtain ⟨wc, cp, hcv, hrd, hcp1, hcp2, hLc⟩ := conv_rd (w.alloc (.cells (hC []) 26)) s (by omega)
  have hcall := refSum_any (some ⟨(w.alloc (.cells (hC []) 26)).heap.size, 0, none⟩) s.length cp s wc rfl (by omega) hrd
  rw [World.size_alloc] at hcv hcall
  rw [htag] at hcall
  have hbc := hbA.trans (hLc.mono hbA.size)
  have hrowC := hrowA.later hLc
  rw [htag]
  have HC := Lib.hid hcall
  have HR := Lib.hid hr
  have HN := Lib.hid hn
  have HT := Lib.hid htl
  clear htag hcall hrowA hbA hLc hrd hr hn htl
  go_enter Try.func23, Try.ntmps23
  go_upto_region 2 with (first
    | (with_reducible refine wpList_alloc rfl 26 rfl (allocH _) ?_)
    | (go_at_call 11; refine HC.out.mono ?_; rintro e w1 ⟨rfl, hb1⟩; have hrow1 := hrowC.belowAll hb1; have hb1' := hbc.trans (hb1.mono hbc.size); obtain ⟨w5, hst, hr5, hg5⟩ := storeH (a := []) (b := tag) (by simp) (by rw [HT.out]; omega) (Row.new w1 26 (hC [])))
    | (refine wpList_store rfl 26 (.tmp 5) (.tmp 10) rfl (.pointer (some ⟨w1.heap.size, 0, none⟩)) (.agg (hC tag)) rfl rfl hst ?_)
    | fail)
  obtain ⟨g5, hg5e⟩ : ∃ y, y = w1.heap.size := ⟨_, rfl⟩
  rw [← hg5e] at hr5 hg5 ⊢
  have hrl := hrow1.lt
  have hrow5 := (hrow1.alloc (.cells (hC []) 26)).grown hg5 (by intro e; injection e with e; omega)
  have hb5 := (hb1'.alloc hb1'.size (.cells (hC []) 26)).grown hg5 (by have := hb1'.size; simp only [World.size_alloc]; omega) (fun j e => by cases e; omega)
  have hg5l := hr5.lt
  have hR5 := Lib.hid (HR.out.below hb5)
  clear HC hb1 hb1' hrow1 hbc hrowC hst hg5 hg5e hcv hrl HR
  go_wp2_with fail
  go_loopw [6, 7] (fun v t wr => ∃ k : Nat, k ≤ 2 ∧ t = .int .i64 k ∧ Own 5 wr w5.heap.size v (List.replicate k tag).flatten ∧ Later w5 wr) (fun _ t _ => 2 - (intOf t).toNat)
  case atStart => exact ⟨0, by omega, rfl, Own.nil _ _ _, Later.refl _⟩
  case round =>
    obtain ⟨k, hk, rfl, hown, hL⟩ := hrel
    have hLs := hL.size
    by_cases hlt : k < 2
    · have hnx : (List.replicate (k + 1) tag).flatten = (List.replicate k tag).flatten ++ tag := by rw [List.replicate_succ', List.flatten_append]; simp
      have hln : (List.replicate k tag).flatten.length ≤ 64 := by
        rw [List.length_flatten, List.map_replicate, List.sum_replicate_nat, HT.out]
        omega
      have HNX := Lib.hid hnx
      have hrt := rd_hash HT.out (hr5.later hL)
      clear hnx
      generalize (List.replicate k tag).flatten = acc at *
      go_wp2_with (first
        | (refine wpList_slice0 rfl 26 (.tmp 5) rfl (.pointer (some ⟨g5, 0, none⟩)) rfl (sliceHash _) ?_)
        | (at_builtin; refine wpList_append_bytes rfl (.tmp 15) (.tmp 16) 23 rfl w5.heap.size 5 Try.underlying23 byteInfo8 _ acc rfl hown (some ⟨g5, 0, none⟩) 32 32 tag rfl HT.out hrt (by omega) hLs ?_; intro v2 w2 hown2 hg2 hat2)
        | fail)
      go_roundw
      case rel => exact ⟨k + 1, by omega, by go_num, by rw [HNX.out]; exact hown2, Below.grown hL hg2 hLs (fun j e => (hown.at_ j e).1)⟩
      case measure => simp [intOf]; omega
    · obtain rfl : k = 2 := by omega
      have h2 : (List.replicate 2 tag).flatten = tag ++ tag := by simp [List.replicate]
      rw [h2] at hown
      have hrl := hR5.out.later hL
      have hrowW := hrow5.later hL
      have hln : (tag ++ tag).length = 64 := by rw [List.length_append, HT.out]
      have hbW := hb5.trans (hL.below.mono hb5.size)
      have htot : (tag ++ tag ++ l).length = 64 + n := by rw [List.length_append, hln, HN.out]
      have HTOT := Lib.hid htot
      have hslen : (Sha.sum (tag ++ tag ++ l)).length = 32 := Sha.sum_len _
      have HSL := Lib.hid hslen
      clear h2 hslen htot
      obtain ⟨tt, htt⟩ : ∃ y, y = tag ++ tag := ⟨_, rfl⟩
      rw [← htt] at HTOT HSL hown hln
      have HTT := Lib.hid htt
      clear htt
      obtain ⟨sm, hsm⟩ : ∃ y, y = Sha.sum (tt ++ l) := ⟨_, rfl⟩
      have HSM := Lib.hid hsm
      clear hsm
      go_wp2_with (first
        | (at_builtin; refine wpList_append_bytes rfl (.tmp 18) (.tmp 19) 23 rfl w5.heap.size 5 Try.underlying23 byteInfo8 _ tt rfl hown A n ca l rfl HN.out hrl (by omega) hLs ?_; intro v2 w2 hown2 hg2 hat2; have hL2 : Later w5 w2 := Below.grown hL hg2 hLs (fun j e => (hown.at_ j e).1); obtain ⟨A2, c2, rfl, _, _, hrd2⟩ := hown2.slice; have hcs := refSum_any A2 (tt ++ l).length c2 (tt ++ l) w2 rfl (by rw [HTOT.out]; omega) hrd2; rw [← HSM.out, HTOT.out] at hcs; rw [HTOT.out]; have HCS := Lib.hid hcs; clear hcs; have hrow2 := hrow5.later hL2; have hb2 := hb5.trans (hL2.below.mono hb5.size))
        | (go_at_call 11; refine HCS.out.mono ?_; clear HCS; rintro e w8 ⟨rfl, hb8⟩; have hrow8 := hrow2.belowAll hb8; obtain ⟨w9, hst, hr9, hg9⟩ := storeH (a := []) (b := sm) (by simp) (by rw [HSM.out, HSL.out]; omega) hrow8)
        | (refine wpList_store rfl 26 (.tmp 4) (.tmp 21) rfl (.pointer (some ⟨w.heap.size, 0, none⟩)) (.agg (hC sm)) rfl rfl hst ?_)
        | fail)
      have hbA := hb2.trans (hb8.mono hb2.size)
      refine bodyPost_ret (results_cell_row rfl _ _ w.heap.size 26 (hC sm) (0, 0) _ rfl hr9 Try.underlying26 rfl (by rw [hC_size _ (by rw [HSM.out, HSL.out]; omega)]; exact infoH)) rfl ⟨by rw [HSM.out, HTT.out], hbA.grown hg9 hbA.size (fun j e => by cases e; exact Nat.le_refl _)⟩
end Go.Proofs.Ytfconncnccgenaa
