/- Walks: the hash of parts under a name. -/
import Derived.Test.YtfconncnccgenaaRows2
import Derived.Test.YtfconncnccgenaaRun
import Derived.Test.YtfconncnccgenaaShaE
import Derived.Test.YtfconncnccgenaaShaCv
set_option linter.unusedVariables false
set_option linter.unusedSimpArgs false
namespace Go.Proofs.Ytfconncnccgenaa
open Go.RowKit
set_option maxRecDepth 100000 in
set_option maxHeartbeats 4000000 in
theorem named_any (s : List UInt8) (A : Option Addr) (n cap : Nat) (ls : List (List UInt8)) (w : World) (hs : s.length ≤ 100000000) (hn : ls.length = n) (hm : n ≤ 100000000) (hmax : ls.flatten.length ≤ 900000000) (hr : RdsC w A ls) :
    Calls Try.prog 22 #[.string ⟨s.toArray⟩, .slice A n cap] w fun e w' => e = .returned (.agg (hC (Sha.sum (Sha.sum s ++ Sha.sum s ++ ls.flatten)))) ∧ Below w.heap.size w w' := by
  obtain ⟨tag, htag⟩ : ∃ y, Sha.sum s = y := ⟨_, rfl⟩
  have htl : tag.length = 32 := by rw [← htag]; exact Sha.sum_len _
  have hflat : tag ++ tag ++ ls.flatten = ([tag, tag] ++ ls).flatten := by simp
  have hrowA := Row.new w 26 (hC [])
  have hbA := below_new w (.cells (hC []) 26)
  obtain ⟨wc, cp, hcv, hrd, hcp1, hcp2, hLc⟩ := conv_rd (w.alloc (.cells (hC []) 26)) s (by omega)
  have hcall := sum_at (some ⟨(w.alloc (.cells (hC []) 26)).heap.size, 0, none⟩) s.length cp s tag 23 wc hrd rfl hcp1 hcp2 (by omega) htag
  rw [World.size_alloc] at hcv hcall
  have hbc := hbA.trans (hLc.mono hbA.size)
  have hrowC := (hrowA.later hLc).alloc (.cells #[.slice (some ⟨w.heap.size + 1, 0, none⟩) s.length cp] 23)
  have hbD := hbc.alloc hbc.size (.cells #[.slice (some ⟨w.heap.size + 1, 0, none⟩) s.length cp] 23)
  rw [htag, hflat]
  have HC := Lib.hid hcall
  have HR := Lib.hid hr
  have HN := Lib.hid hn
  have HT := Lib.hid htl
  have HMAX := Lib.hid hmax
  clear htag hcall hrowA hbA hLc hbc hrd hr hn htl hmax hflat
  go_enter Try.func22, Try.ntmps22
  go_upto_region 2 with (first
    | (with_reducible refine wpList_alloc rfl 26 rfl (allocH _) ?_)
    | (refine wpList_buildSl rfl 51 1 _ rfl #[(0, .slice (some ⟨w.heap.size + 1, 0, none⟩) s.length cp)] rfl (build1S _ _ _ _) ?_)
    | (go_at_call 10; refine HC.out.mono ?_; rintro e w1 ⟨rfl, hb1⟩; have hrow1 := hrowC.below hb1 (by have := hrowC.lt; simp only [World.size_alloc] at this; omega); have hb1' := hbD.trans (hb1.mono (by have := hbD.size; simp only [World.size_alloc] at this; omega)); obtain ⟨w5, hst, hr5, hg5⟩ := storeH (a := []) (b := tag) (by simp) (by rw [HT.out]; omega) (Row.new w1 26 (hC [])))
    | (refine wpList_store rfl 26 (.tmp 5) (.tmp 12) rfl (.pointer (some ⟨w1.heap.size, 0, none⟩)) (.agg (hC tag)) rfl rfl hst ?_)
    | fail)
  obtain ⟨g5, hg5e⟩ : ∃ y, y = w1.heap.size := ⟨_, rfl⟩
  rw [← hg5e] at hr5 hg5 ⊢
  have hrl := hrow1.lt
  have hrow5 := (hrow1.alloc (.cells (hC []) 26)).grown hg5 (by intro e; injection e with e; omega)
  have hwg5 : w.heap.size < g5 := by omega
  have hb5 := (hb1'.alloc hb1'.size (.cells (hC []) 26)).grown hg5 (by have := hb1'.size; simp only [World.size_alloc]; omega) (fun j e => by cases e; omega)
  clear HC hb1 hb1' hrow1 hbD hrowC hst hg5 hg5e hcv hrl
  go_upto_region 3 with (first
    | (go_at_call 24; refine (new_any _).mono ?_; rintro e w6 ⟨g, rfl, hrun6, hg6, hb6⟩)
    | fail)
  have hrt := Lib.hid (rd_hash HT.out hr5)
  have hR5 := Lib.hid ((HR.out.below hb5).toW)
  have hL56 : Hid (Later w5 w6) := Lib.hid (show Later w5 w6 from hb6)
  have HB5 := Lib.hid hb5
  have hrow6 := hrow5.belowAll hb6
  have hg5l := hr5.lt
  have hw5 : w.heap.size < w5.heap.size := by omega
  clear hr5 hrow5 hb5 hb6
  refine (wpIn_wide (n := 0)).1 ?_
  refine wpIn_region_vals wide_wide [Pr.eq (.slice (some ⟨g5, 0, none⟩) 32 32), Pr.eq (.slice (some ⟨g5, 0, none⟩) 32 32), Pr.rows2 w5 [tag, tag], Pr.eq (.slice A n cap), Pr.rdsW w5 (2 + n) ([tag, tag] ++ ls), Pr.eq (.int .i64 ((2 + n : Nat) : Int)), Pr.eq (.int .i64 0)] (by kernel_rfl) (by kernel_rfl) (by kernel_rfl) (by kernel_rfl) (by kernel_rfl) ⟨?_, ?_, ?_, ?_, ?_, ?_, ?_, trivial⟩ ?_
  · exact fun ac W hL he => stepOk_want rfl (op_slice (W' := W) rfl (he.keep (.tmp 5) (by kernel_rfl)) rfl rfl rfl (sliceHash W) rfl)
  · exact fun ac W hL he => stepOk_want rfl (op_slice (W' := W) rfl (he.keep (.tmp 5) (by kernel_rfl)) rfl rfl rfl (sliceHash W) rfl)
  · intro ac W hL he; refine stepOk_want rfl ?_; have e0 : ac.eval (.tmp 14) = (.slice (some ⟨g5, 0, none⟩) 32 32) := (he.get 0 14 (by kernel_rfl) rfl); have e1 : ac.eval (.tmp 15) = (.slice (some ⟨g5, 0, none⟩) 32 32) := (he.get 1 15 (by kernel_rfl) rfl); exact op_buildSlice (W' := _) (vs := #[(0, .slice (some ⟨g5, 0, none⟩) 32 32), (1, .slice (some ⟨g5, 0, none⟩) 32 32)]) rfl (by simp only [List.map_toArray, List.map_cons, List.map_nil, e0, e1]) (run_rows2 W _ _ _ _ _ _) ((Later.refl W).alloc _) ⟨_, rfl, RdsW.two 23 rfl hrt.out HT.out (Nat.le_refl _) (by decide) hrt.out HT.out (Nat.le_refl _) (by decide)⟩
  · exact fun ac W hL he => stepOk_want rfl (op_move rfl (he.keep (.tmp 1) (by kernel_rfl)))
  · intro ac W hL he; refine stepOk_want rfl ?_; obtain ⟨gr, er, hrr⟩ : ∃ g, ac.eval (.tmp 16) = .slice (some ⟨g, 0, none⟩) 2 2 ∧ RdsW w5 W (some ⟨g, 0, none⟩) [tag, tag] := he.get 2 16 (by kernel_rfl) rfl; exact op_append_rows rfl Try.underlying51 infoRow er (he.get 3 17 (by kernel_rfl) rfl) rfl hrr HN.out (hR5.out.later (hL56.out.step hL)) (by omega) (fun D d w' h1 h2 _ => ⟨D, d, rfl, h2, h1⟩)
  · intro ac W hL he; refine stepOk_want rfl ?_; obtain ⟨D, d, er, _, _⟩ : ∃ D d, ac.eval (.tmp 18) = .slice D (2 + n) d ∧ 2 + n ≤ d ∧ RdsW w5 W D ([tag, tag] ++ ls) := he.get 4 18 (by kernel_rfl) rfl; exact op_len Try.underlying51 rfl er rfl
  · exact fun ac W hL he => stepOk_want rfl (op_move rfl rfl)
  · intro xs W hL hx
    obtain ⟨D, d, v4, hd, hrD⟩ : ∃ D d, xs 4 = .slice D (2 + n) d ∧ 2 + n ≤ d ∧ RdsW w5 W D ([tag, tag] ++ ls) := hx 4 (by decide)
    have v5 : xs 5 = .int .i64 ((2 + n : Nat) : Int) := hx 5 (by decide)
    have v6 : xs 6 = .int .i64 0 := hx 6 (by decide)
    clear hx
    simp only [putL, Nat.reduceAdd, Act.put, List.setIfInBounds_toArray, List.set_cons_succ, List.set_cons_zero, v4, v5, v6]
    clear v4 v5 v6 HR hrt hR5
    have hrunW := hrun6.later hL
    have hrowW := hrow6.later hL
    have hLW : Later w5 W := hL56.out.step hL
    have hlen : ([tag, tag] ++ ls).length = 2 + n := by rw [List.length_append, HN.out]; rfl
    have hfl : ([tag, tag] ++ ls).flatten.length ≤ 900000100 := by
      have h1 := HMAX.out
      have h2 := HT.out
      simp only [List.cons_append, List.nil_append, List.flatten_cons, List.length_append]
      omega
    obtain ⟨qs, hqs⟩ : ∃ y, y = [tag, tag] ++ ls := ⟨_, rfl⟩
    rw [← hqs] at hlen hfl hrD
    obtain ⟨m, hmm⟩ : ∃ y, y = 2 + n := ⟨_, rfl⟩
    rw [← hmm] at hlen hd ⊢
    have HQS := Lib.hid hqs
    have HQ := Lib.hid hlen
    have HF := Lib.hid hfl
    have HM := Lib.hid (show m ≤ 100000002 by omega)
    clear hrun6 hrow6 hL hlen hfl HN HMAX hL56 hqs hmm HT
    go_wp2_with fail
    go_loopw [20] (fun t wr => ∃ k : Nat, k ≤ m ∧ t = .int .i64 k ∧ IsRun wr g (qs.take k).flatten ∧ Row wr w.heap.size 26 (hC []) ∧ RdsW w5 wr D qs ∧ Later w5 wr) (fun t _ => m - (intOf t).toNat)
    case atStart => exact ⟨0, by omega, rfl, hrunW, hrowW, hrD, hLW⟩
    case round =>
      obtain ⟨k, hk, rfl, hrun, hrow, hrd, hL⟩ := hrel
      clear hrunW hrowW hrD hLW
      have hm1 := HM.out
      by_cases hlt : k < m
      · have hltq : k < qs.length := by rw [HQ.out]; exact hlt
        obtain ⟨b, o, Ai, ci, rfl, hc, hci, hcm, hrd1⟩ := hrd.at_ hltq
        have hrd5 := hrd1.later hL
        have hlt1 : ∀ ad, Ai = some ad → qs[k] ≠ [] → ad.block ≠ g := fun ad e hl => by
          obtain ⟨b', o', e', _⟩ := hrd1 hl
          rw [e] at e'
          injection e' with e'
          have := hrd1.lt (e.trans (congrArg some e')) hl
          rw [e']
          exact Nat.ne_of_lt (Nat.lt_of_lt_of_le this hg6)
        have hnext : (qs.take (k + 1)).flatten = (qs.take k).flatten ++ qs[k] := by
          rw [List.take_succ_eq_append_getElem hltq, List.flatten_append]; simp
        have hpl : (qs.take k).flatten.length + qs[k].length ≤ 1099511627776 := by
          have := take_flat qs (k + 1)
          have h2 := HF.out
          rw [hnext, List.length_append] at this
          omega
        have HNX := Lib.hid hnext
        have HL1 := Lib.hid hlt1
        have HRD := Lib.hid hrd
        clear hnext hlt1 hrd1 hrd
        generalize (qs.take k).flatten = z at *
        generalize qs[k] = l at *
        go_wp2_with (first | (go_at_call 26; refine (write_any g z Ai _ ci l _ hrun rfl hci hcm hrd5 HL1.out hpl).mono ?_; rintro e w7 ⟨rfl, hrun7, hg7⟩) | fail)
        have hrow7 := hrow.grown hg7 (by intro e; injection e with e; omega)
        have hL7 : Later w5 w7 := Below.grown hL hg7 hL.size (fun j e => by cases e; omega)
        have hrd7 := HRD.out.keepRun hrun hg7
        go_roundw
        case rel => exact ⟨k + 1, by omega, by go_num, by rw [HNX.out]; exact hrun7, hrow7, hrd7, hL7⟩
        case measure => simp [intOf]; omega
      · obtain rfl : k = m := by omega
        rw [List.take_of_length_le (by rw [HQ.out]; omega)] at hrun
        have hLF := HF.out
        obtain ⟨z, hz⟩ : ∃ z, qs.flatten = z := ⟨_, rfl⟩
        rw [hz] at hrun hLF
        have hzl : (Sha.sum z).length = 32 := Sha.sum_len _
        have HZ := Lib.hid hz
        have HZL := Lib.hid hzl
        clear hz hrd hzl
        go_wp2_with (first
          | (go_at_call 29; refine (runSum_any g z _ hrun (by omega)).mono ?_; rintro e w8 ⟨rfl, hb8⟩; have hrow8 := hrow.belowAll hb8; obtain ⟨w9, hst, hr9, hg9⟩ := storeH (a := []) (b := Sha.sum z) (by simp) (by rw [HZL.out]; omega) hrow8)
          | (refine wpList_store rfl 26 (.tmp 4) (.tmp 29) rfl (.pointer (some ⟨w.heap.size, 0, none⟩)) (.agg (hC (Sha.sum z))) rfl rfl hst ?_)
          | fail)
        have hbA := HB5.out.trans ((hL.call hb8).below.mono HB5.out.size)
        refine bodyPost_ret (results_cell_row rfl _ _ w.heap.size 26 (hC (Sha.sum z)) (0, 0) _ rfl hr9 Try.underlying26 rfl (by rw [hC_size _ (by rw [HZL.out]; omega)]; exact infoH)) rfl ⟨by rw [← HZ.out, HQS.out]; rfl, hbA.grown hg9 hbA.size (fun j e => by cases e; exact Nat.le_refl _)⟩
end Go.Proofs.Ytfconncnccgenaa
