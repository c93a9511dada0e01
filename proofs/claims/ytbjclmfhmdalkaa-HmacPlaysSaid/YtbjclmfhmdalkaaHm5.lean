/- Walks: the tag under way is told; its copy. -/
import Derived.Test.YtbjclmfhmdalkaaHm4
set_option linter.unusedVariables false
set_option linter.unusedSimpArgs false
namespace Go.Proofs.Ytbjclmfhmdalkaa
open Go.RowKit
theorem neq_of_lt {a b : Nat} (h : a < b) : b ≠ a := by omega
def Pr.run (b : Nat) (l : List UInt8) : Pr := ⟨fun v W => ∃ g, v = .pointer (some ⟨g, 0, none⟩) ∧ b ≤ g ∧ IsRun W g l, fun _ _ _ ⟨g, e, h0, h⟩ hL => ⟨g, e, h0, h.later hL⟩⟩
def Pr.runS (b : Nat) (l : List UInt8) : Pr := ⟨fun v W => ∃ g, v = .agg #[.pointer (some ⟨g, 0, none⟩)] ∧ b ≤ g ∧ IsRun W g l, fun _ _ _ ⟨g, e, h0, h⟩ hL => ⟨g, e, h0, h.later hL⟩⟩
def Pr.runM (b : Nat) (kb l : List UInt8) : Pr := ⟨fun v W => ∃ g, v = .agg (macC g kb) ∧ b ≤ g ∧ IsRun W g l, fun _ _ _ ⟨g, e, h0, h⟩ hL => ⟨g, e, h0, h.later hL⟩⟩
def Pr.mac (b : Nat) (kb l : List UInt8) : Pr := ⟨fun v W => ∃ m g, v = .pointer (some ⟨m, 0, none⟩) ∧ b ≤ m ∧ b ≤ g ∧ m ≠ g ∧ Row W m 77 (macC g kb) ∧ IsRun W g l, fun _ _ _ ⟨m, g, e, h0, h1, h2, h3, h4⟩ hL => ⟨m, g, e, h0, h1, h2, h3.later hL, h4.later hL⟩⟩
set_option maxRecDepth 100000 in
set_option maxHeartbeats 2000000 in
theorem macTag_any (g gr : Nat) (key msg : List UInt8) (w : World) (h : IsMac w g gr key msg) (hmax : msg.length ≤ 900000000) :
    Calls Try.prog 21 #[.pointer (some ⟨g, 0, none⟩)] w fun e w' => e = .returned (.agg (hC (Hm.tag key msg))) ∧ Below w.heap.size w w' := by
  have hcell := mac_run h.row
  have hrow2 := Row.new w 25 (hC [])
  have hb0 := below_new w (.cells (hC []) 25)
  have h1 := h.later ((Later.refl w).alloc (.cells (hC []) 25))
  have hcell1 := mac_run h1.row
  have hsum := runSum_any gr _ _ h1.run (by rw [List.length_append, Hm.turn_len, Hm.pad_len]; omega)
  have hpl := Hm.pad_len key
  obtain ⟨T, hT⟩ : ∃ q, Hm.tag key msg = q := ⟨_, rfl⟩
  obtain ⟨H, hH⟩ : ∃ q, Sha.sum (Hm.turn 54 (Hm.pad key) ++ msg) = q := ⟨_, rfl⟩
  have hHl : H.length = 32 := by rw [← hH]; exact Sha.sum_len _
  have hTl : T.length = 32 := by rw [← hT]; exact Sha.sum_len _
  have hTs : Sha.sum (Hm.turn 92 (Hm.pad key) ++ H) = T := by rw [← hT, ← hH]; rfl
  rw [hH] at hsum
  rw [hT]
  have HTL := Lib.hid hTl
  have HHL := Lib.hid hHl
  have HTS := Lib.hid hTs
  have HPL := Lib.hid hpl
  have HN := Lib.hid (none_mac g gr key msg _ h1)
  clear hT hH hHl hTl hTs hpl
  go_enter Try.func21, Try.ntmps21
  go_upto_region 4 with (first
    | (with_reducible refine wpList_alloc rfl 25 rfl (allocH _) ?_)
    | (go_at_call 34; refine HN.out.mono ?_; rintro e w' ⟨rfl, rfl⟩)
    | (go_at_call 35; refine hsum.mono ?_; clear hsum; rintro e w2 ⟨rfl, hb2⟩; obtain ⟨w3, hst, hr3, hg3⟩ := storeH (a := []) (b := H) (by simp) (by rw [HHL.out]; omega) (Row.new w2 25 (hC [])))
    | (refine wpList_store rfl 25 (.tmp 3) (.tmp 12) rfl (.pointer (some ⟨w2.heap.size, 0, none⟩)) (.agg (hC H)) rfl rfl hst ?_)
    | fail)
  obtain ⟨g2, hg2⟩ : ∃ q, q = w.heap.size := ⟨_, rfl⟩
  rw [← hg2] at hrow2 ⊢
  have hgle : w.heap.size ≤ g2 := by omega
  generalize w.alloc (.cells (hC []) 25) = w1 at *
  have hL2 : Later w1 w2 := hb2
  have hL3 : Later w1 w3 := Below.grown (hL2.alloc _) hg3 (by have := hL2.size; simp only [World.size_alloc] at this ⊢; omega) (fun j e => by cases e; exact hL2.size)
  obtain ⟨g3, hg3e⟩ : ∃ q, q = w2.heap.size := ⟨_, rfl⟩
  rw [← hg3e] at hr3 ⊢
  have hrow := h1.row.later hL3
  have hrow2' := hrow2.later hL3
  have hb3 : Below w.heap.size w w3 := hb0.trans (hL3.mono hb0.size)
  have hbs := hb3.size
  generalize Hm.pad key = kb at *
  have HSS : Hid (∀ gq W, RdsC W (some ⟨gq, 0, none⟩) [Hm.turn 92 kb, H] → Calls Try.prog 29 #[.slice (some ⟨gq, 0, none⟩) 2 2] W fun e w' => e = .returned (.agg (hC T)) ∧ Below W.heap.size W w') := Lib.hid (fun gq W hr => by
    have := shaSum_any (some ⟨gq, 0, none⟩) 2 2 [Hm.turn 92 kb, H] W rfl (by decide) (by simp only [List.flatten_cons, List.flatten_nil, List.append_nil, List.length_append, Hm.turn_len, HHL.out, HPL.out]; decide) hr
    have hf : [Hm.turn 92 kb, H].flatten = Hm.turn 92 kb ++ H := by simp
    rwa [hf, HTS.out] at this)
  clear hcell hcell1 hb0 hb2 hL2 hL3 hg3 hst hg3e h1 h HN hrow2 hg2
  refine (wpIn_wide (n := 0)).1 ?_
  refine wpIn_region_last wide_wide [Pr.fnBy 92, Pr.eq (.pointer (some ⟨g, 0, none⟩)), Pr.eq (.pointer (some ⟨g, 0, none⟩)), Pr.eq (.pointer (some ⟨g, 1, none⟩)), Pr.eq (.agg (aB kb)), Pr.sl w3.heap.size 64 (Hm.turn 92 kb), Pr.eq (.slice (some ⟨g3, 0, none⟩) 32 32), Pr.rowsC 2 [Hm.turn 92 kb, H], Pr.eq (.agg (hC T))] (by kernel_rfl) (by kernel_rfl) (by kernel_rfl) (by kernel_rfl) (by kernel_rfl) (by kernel_rfl) rfl ⟨?_, ?_, ?_, ?_, ?_, ?_, ?_, ?_, ?_, trivial⟩ ?_
  · intro ac W hL he; refine stepOk_want rfl ?_; exact op_callF (vs := #[.int .u8 92]) rfl (by simp [Act.eval]) (enters_of Try.func33 (by kernel_rfl) rfl) (by_at 92 _ rfl W)
  · exact fun ac W hL he => stepOk_want rfl (op_move rfl (he.keep (.tmp 0) (by kernel_rfl)))
  · exact fun ac W hL he => stepOk_want rfl (op_nil rfl (he.get 1 14 (by kernel_rfl) rfl) rfl)
  · exact fun ac W hL he => stepOk_want rfl (op_fieldAddr rfl (he.get 2 15 (by kernel_rfl) rfl) fieldM1 rfl)
  · exact fun ac W hL he => stepOk_want rfl (op_load rfl (he.get 3 16 (by kernel_rfl) rfl) (mac_key HPL.out (hrow.later hL)) rfl)
  · intro ac W hL he; refine stepOk_want rfl ?_; obtain ⟨gc, e0, hgc⟩ : ∃ gc, ac.eval (.tmp 13) = .func (.func 45) #[] #[.pointer (some ⟨gc, 0, none⟩)] ∧ W.cell? ⟨gc, 0, none⟩ = some (.int .u8 ((92 : UInt8).toNat : Int)) := he.get 0 13 (by kernel_rfl) rfl; have e1 : ac.eval (.tmp 17) = .agg (aB kb) := he.get 4 17 (by kernel_rfl) rfl; exact op_callV (vs := #[.agg (aB kb)]) rfl e0 (by simp only [List.map_toArray, List.map_cons, List.map_nil, e1]) (enters_of Try.func45 (by kernel_rfl) rfl) rfl ((by1_any kb 92 gc W HPL.out hgc).mono fun e W' ⟨g', he', hrd, hge, hL'⟩ => ⟨_, he', hL', g', rfl, Nat.le_trans hL.size hge, hrd⟩)
  · exact fun ac W hL he => stepOk_want rfl (op_slice (W' := W) rfl (he.keep (.tmp 3) (by kernel_rfl)) rfl rfl rfl (sliceHash W) rfl)
  · intro ac W hL he; refine stepOk_want rfl ?_; obtain ⟨gb, e0, hgb, hrd⟩ : ∃ gb, ac.eval (.tmp 18) = .slice (some ⟨gb, 0, none⟩) 64 64 ∧ w3.heap.size ≤ gb ∧ Rd W (some ⟨gb, 0, none⟩) (Hm.turn 92 kb) := he.get 5 18 (by kernel_rfl) rfl; have e1 : ac.eval (.tmp 19) = .slice (some ⟨g3, 0, none⟩) 32 32 := he.get 6 19 (by kernel_rfl) rfl; exact op_buildSlice (W' := _) (vs := #[(0, .slice (some ⟨gb, 0, none⟩) 64 64), (1, .slice (some ⟨g3, 0, none⟩) 32 32)]) rfl (by simp only [List.map_toArray, List.map_cons, List.map_nil, e0, e1]) (run_rows2 W _ _ _ _ _ _) ((Later.refl W).alloc _) ⟨_, rfl, (RdsW.two (w0 := W) 22 rfl hrd (by rw [Hm.turn_len, HPL.out]) (Nat.le_refl _) (by decide) (rd_hash HHL.out (hr3.later hL)) HHL.out (Nat.le_refl _) (by decide)).toC ((Later.refl W).alloc _)⟩
  · intro ac W hL he; refine stepOk_want rfl ?_; obtain ⟨gq, eq, hrr⟩ : ∃ g, ac.eval (.tmp 20) = .slice (some ⟨g, 0, none⟩) 2 2 ∧ RdsC W (some ⟨g, 0, none⟩) [Hm.turn 92 kb, H] := he.get 7 20 (by kernel_rfl) rfl; exact op_callF (vs := #[.slice (some ⟨gq, 0, none⟩) 2 2]) rfl (by simp only [List.map_toArray, List.map_cons, List.map_nil, eq]) (enters_of Try.func29 (by kernel_rfl) rfl) ((HSS.out gq W hrr).mono fun e W' ⟨he', hb⟩ => ⟨_, he', hb, rfl⟩)
  · intro xs W hL hx hk hg
    have e2 := hg 8 21 (by decide) (by kernel_rfl)
    have v2 : xs 8 = .agg (hC T) := hx 8 (by decide)
    rw [v2] at e2
    have e1 : _ = Value.pointer (some ⟨g2, 0, none⟩) := hk (.tmp 2) (by kernel_rfl)
    obtain ⟨w9, hst9, hr9, hg9⟩ := storeH (a := []) (b := T) (by simp) (by rw [HTL.out]; omega) (hrow2'.later hL)
    refine last_store rfl rfl e1 e2 hst9 ?_
    have hb9 : Below w.heap.size w w9 := (hb3.trans (hL.mono hbs)).grown hg9 (by have := hL.size; omega) (fun j e => by cases e; exact hgle)
    clear hx hk hg e1 e2 v2 hst9 hg9
    simp only [initL, lastL, putL, Nat.reduceAdd, Act.put, List.setIfInBounds_toArray, List.set_cons_succ, List.set_cons_zero]
    go_wp2_with fail
    refine bodyPost_ret (results_cell_row rfl _ _ g2 25 (hC T) (0, 0) _ rfl hr9 Try.underlying25 rfl (by rw [hC_size _ (by rw [HTL.out]; omega)]; exact infoH)) rfl ⟨rfl, hb9⟩
set_option maxRecDepth 100000 in
set_option maxHeartbeats 2000000 in
theorem copyMac_any (g gr : Nat) (key msg : List UInt8) (w : World) (h : IsMac w g gr key msg) :
    Calls Try.prog 24 #[.pointer (some ⟨g, 0, none⟩)] w fun e w' => ∃ m mr, e = .returned (.pointer (some ⟨m, 0, none⟩)) ∧ IsMac w' m mr key msg ∧ w.heap.size ≤ m ∧ w.heap.size ≤ mr ∧ Later w w' := by
  have hcm0 := mac_run h.row
  have hrow := h.row
  have hrun := h.run
  have hpl := Hm.pad_len key
  have HN := Lib.hid (none_mac g gr key msg _ h)
  clear h
  generalize hkb : Hm.pad key = kb at *
  generalize hl : Hm.turn 54 kb ++ msg = l at *
  have HKB := Lib.hid hkb
  have HL := Lib.hid hl
  have HPL := Lib.hid hpl
  clear hkb hl hpl
  go_enter Try.func24, Try.ntmps24
  go_upto_region 3 with (first
    | (go_at_call 34; refine HN.out.mono ?_; rintro e w' ⟨rfl, rfl⟩)
    | fail)
  refine (wpIn_wide (n := 0)).1 ?_
  refine wpIn_region_vals wide_wide [Pr.eq (.pointer (some ⟨g, 0, none⟩)), Pr.eq (.pointer (some ⟨g, 0, none⟩)), Pr.eq (.pointer (some ⟨g, 0, none⟩)), Pr.eq (.pointer (some ⟨g, 0, none⟩)), Pr.eq (.pointer (some ⟨gr, 0, none⟩)), Pr.run w.heap.size l, Pr.runS w.heap.size l, Pr.eq (.pointer (some ⟨g, 0, none⟩)), Pr.eq (.pointer (some ⟨g, 0, none⟩)), Pr.eq (.pointer (some ⟨g, 1, none⟩)), Pr.eq (.agg (aB kb)), Pr.runM w.heap.size kb l, Pr.mac w.heap.size kb l, Pr.mac w.heap.size kb l] (by kernel_rfl) (by kernel_rfl) (by kernel_rfl) (by kernel_rfl) (by kernel_rfl) ⟨?_, ?_, ?_, ?_, ?_, ?_, ?_, ?_, ?_, ?_, ?_, ?_, ?_, ?_, trivial⟩ ?_
  · exact fun ac W hL he => stepOk_want rfl (op_move rfl (he.keep (.tmp 0) (by kernel_rfl)))
  · exact fun ac W hL he => stepOk_want rfl (op_nil rfl (he.get 0 5 (by kernel_rfl) rfl) rfl)
  · exact fun ac W hL he => stepOk_want rfl (op_fieldAddr rfl (he.get 1 6 (by kernel_rfl) rfl) fieldM0 rfl)
  · exact fun ac W hL he => stepOk_want rfl (op_fieldAddr rfl (he.get 2 7 (by kernel_rfl) rfl) fieldS0 rfl)
  · exact fun ac W hL he => stepOk_want rfl (op_load rfl (he.get 3 8 (by kernel_rfl) rfl) (loadRun (hL.cell hcm0)) rfl)
  · intro ac W hL he; refine stepOk_want rfl ?_; have e0 : ac.eval (.tmp 9) = .pointer (some ⟨gr, 0, none⟩) := he.get 4 9 (by kernel_rfl) rfl; exact op_callF (vs := #[.pointer (some ⟨gr, 0, none⟩)]) rfl (by simp only [List.map_toArray, List.map_cons, List.map_nil, e0]) (enters_of Try.func40 (by kernel_rfl) rfl) ((copy_any gr l W (hrun.later hL)).mono fun e W' ⟨q, he', hr', hq, hL'⟩ => ⟨_, he', hL', q, rfl, Nat.le_trans hL.size hq, hr'⟩)
  · intro ac W hL he; refine stepOk_want rfl ?_; obtain ⟨q, e0, hq, hr'⟩ : ∃ q, ac.eval (.tmp 10) = .pointer (some ⟨q, 0, none⟩) ∧ w.heap.size ≤ q ∧ IsRun W q l := he.get 5 10 (by kernel_rfl) rfl; exact op_buildR (vs := #[(0, .pointer (some ⟨q, 0, none⟩))]) rfl (by simp only [List.map_toArray, List.map_cons, List.map_nil, e0]) (buildSum q W) ⟨q, rfl, hq, hr'⟩
  · exact fun ac W hL he => stepOk_want rfl (op_move rfl (he.keep (.tmp 0) (by kernel_rfl)))
  · exact fun ac W hL he => stepOk_want rfl (op_nil rfl (he.get 7 12 (by kernel_rfl) rfl) rfl)
  · exact fun ac W hL he => stepOk_want rfl (op_fieldAddr rfl (he.get 8 13 (by kernel_rfl) rfl) fieldM1 rfl)
  · exact fun ac W hL he => stepOk_want rfl (op_load rfl (he.get 9 14 (by kernel_rfl) rfl) (mac_key HPL.out (hrow.later hL)) rfl)
  · intro ac W hL he; refine stepOk_want rfl ?_; obtain ⟨q, e0, hq, hr'⟩ : ∃ q, ac.eval (.tmp 11) = .agg #[.pointer (some ⟨q, 0, none⟩)] ∧ w.heap.size ≤ q ∧ IsRun W q l := he.get 6 11 (by kernel_rfl) rfl; have e1 : ac.eval (.tmp 15) = .agg (aB kb) := he.get 10 15 (by kernel_rfl) rfl; exact op_buildR (vs := #[(0, .agg #[.pointer (some ⟨q, 0, none⟩)]), (1, .agg (aB kb))]) rfl (by simp only [List.map_toArray, List.map_cons, List.map_nil, e0, e1]) (buildMac q kb HPL.out W) ⟨q, rfl, hq, hr'⟩
  · intro ac W hL he; refine stepOk_want rfl ?_; obtain ⟨q, e0, hq, hr'⟩ : ∃ q, ac.eval (.tmp 16) = .agg (macC q kb) ∧ w.heap.size ≤ q ∧ IsRun W q l := he.get 11 16 (by kernel_rfl) rfl; exact op_boxR rfl e0 (boxM q kb HPL.out W) ((Later.refl W).alloc _) ⟨W.heap.size, q, rfl, hL.size, hq, neq_of_lt hr'.lt, Row.new W _ _, hr'.later ((Later.refl W).alloc _)⟩
  · exact fun ac W hL he => stepOk_want rfl (op_assign rfl (he.get 12 17 (by kernel_rfl) rfl))
  intro xs W hL hx
  obtain ⟨m, mr, v2, hm, hmr, hne, hrow2, hrun2⟩ : ∃ m q, xs 13 = .pointer (some ⟨m, 0, none⟩) ∧ w.heap.size ≤ m ∧ w.heap.size ≤ q ∧ m ≠ q ∧ Row W m 77 (macC q kb) ∧ IsRun W q l := hx 13 (by decide)
  clear hx
  simp only [putL, Nat.reduceAdd, Act.put, List.setIfInBounds_toArray, List.set_cons_succ, List.set_cons_zero, v2]
  go_wp2_with fail
  go_ret
  exact ⟨m, mr, rfl, ⟨hne, by rw [HKB.out]; exact hrow2, by rw [HKB.out, HL.out]; exact hrun2⟩, hm, hmr, hL⟩
end Go.Proofs.Ytbjclmfhmdalkaa
