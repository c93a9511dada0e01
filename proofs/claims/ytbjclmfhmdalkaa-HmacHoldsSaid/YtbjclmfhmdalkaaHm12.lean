/- Walks: the document's child of a key. -/
import Derived.Test.YtbjclmfhmdalkaaHm11
set_option linter.unusedVariables false
set_option linter.unusedSimpArgs false
namespace Go.Proofs.Ytbjclmfhmdalkaa
open Go.RowKit
set_option maxRecDepth 100000 in
set_option maxHeartbeats 4000000 in
theorem refChild_any (A : Option Addr) (n ca : Nat) (key : List UInt8) (B : Option Addr) (m cb : Nat) (ss : List (List UInt8 × Nat)) (w : World) (hn : key.length = n) (hc : n ≤ ca) (hcm : ca ≤ 9223372036854775807) (hnm : n ≤ 1000000) (hr : Rd w A key)
    (hss : ss.length = m) (hm : m ≤ 1000000) (hs1 : ∀ s ∈ ss, s.1.length ≤ 10000 ∧ s.2 < 18446744073709551616) (hst : Steps w B ss) :
    Calls Try.prog 17 #[.slice A n ca, .slice B m cb] w fun e w' => e = .returned (.agg (hC (Hm.child key ss))) ∧ Below w.heap.size w w' := by
  have hrow4 := Row.new w 25 (hC [])
  have hL1 := (Later.refl w).alloc (.cells (hC []) 25)
  have HN := Lib.hid hn
  have HM := Lib.hid hss
  by_cases h0 : m = 0
  · subst h0
    have hs0 : ss = [] := List.eq_nil_of_length_eq_zero hss
    subst hs0
    obtain ⟨H, hH⟩ : ∃ H, Sha.sum key = H := ⟨_, rfl⟩
    have hHl : H.length = 32 := by rw [← hH]; exact Sha.sum_len _
    have hcall := refSum_any A n ca key (w.alloc (.cells (hC []) 25)) hn (by omega) (hr.later hL1)
    rw [hH] at hcall
    have HHL := Lib.hid hHl
    have HH : Hid (Hm.child key [] = H) := Lib.hid hH
    obtain ⟨g4, hg4⟩ : ∃ q, q = w.heap.size := ⟨_, rfl⟩
    have hg4w : w.heap.size ≤ g4 := by omega
    rw [← hg4] at hrow4
    clear hn hss hHl hH hst hr
    go_enter Try.func17, Try.ntmps17
    go_upto_region 1 with (first
      | (with_reducible refine wpList_alloc rfl 25 rfl (allocH _) ?_)
      | fail)
    rw [← hg4]
    clear hg4
    generalize w.alloc (.cells (hC []) 25) = w1 at *
    go_wp2_with (first
      | (go_at_call 22; refine hcall.mono ?_; clear hcall; rintro e w2 ⟨rfl, hb2⟩; have hL2 : Later w1 w2 := hb2; obtain ⟨w3, hst3, hr3, hg3⟩ := storeH (a := []) (b := H) (by simp) (by rw [HHL.out]; omega) (hrow4.later hL2))
      | (refine wpList_store rfl 25 (.tmp 4) (.tmp 15) rfl (.pointer (some ⟨g4, 0, none⟩)) (.agg (hC H)) rfl rfl hst3 ?_)
      | fail)
    have hb3 := hL1.step hL2
    refine bodyPost_ret (results_cell_row rfl _ _ g4 25 (hC H) (0, 0) _ rfl hr3 Try.underlying25 rfl (by rw [hC_size _ (by rw [HHL.out]; omega)]; exact infoH)) rfl ⟨by rw [HH.out], Below.grown hb3.below hg3 hb3.size (fun j e => by cases e; exact hg4w)⟩
  · have hd0 : decide ((m : Int) = 0) = false := by simp; omega
    have hd0' : ((m : Int) == 0) = false := by simp; omega
    have hrow5 := Row.new (w.alloc (.cells (hC []) 25)) 25 (hC [])
    have hr41 := hrow4.alloc (.cells (hC []) 25)
    have hL2 := hL1.alloc (.cells (hC []) 25)
    clear hn hss
    go_enter Try.func17, Try.ntmps17
    go_upto_region 4 with (first
      | (with_reducible refine wpList_alloc rfl 25 rfl (allocH _) ?_)
      | fail)
    simp only [World.size_alloc] at hrow5 ⊢
    obtain ⟨g4, hg4⟩ : ∃ q, q = w.heap.size := ⟨_, rfl⟩
    have hg4w : w.heap.size ≤ g4 := by omega
    rw [← hg4] at hrow5 hr41 ⊢
    clear hg4 hrow4 hL1
    generalize (w.alloc (.cells (hC []) 25)).alloc (.cells (hC []) 25) = w1 at *
    have hrk := hr.later hL2
    have hdn0 : Hm.down key (ss.take 0) = key := rfl
    have HD0 := Lib.hid hdn0
    clear hdn0 hr hd0 hd0'
    go_wp2_with fail
    go_loopw [0, 6] (fun v t wr => ∃ k : Nat, k ≤ m ∧ t = .int .i64 (k : Int) ∧ (∃ S c, v = .slice S (Hm.down key (ss.take k)).length c ∧ (Hm.down key (ss.take k)).length ≤ c ∧ c ≤ 9223372036854775807 ∧ Rd wr S (Hm.down key (ss.take k)) ∧ (Hm.down key (ss.take k)).length ≤ 1000000) ∧ Row wr (g4 + 1) 25 (hC (if k = 0 then [] else Hm.down key (ss.take k))) ∧ Row wr g4 25 (hC []) ∧ Below w.heap.size w wr) (fun _ t _ => m - (intOf t).toNat)
    case atStart => exact ⟨0, by omega, rfl, ⟨A, ca, by rw [HD0.out, HN.out], by rw [HD0.out, HN.out]; exact hc, hcm, by rw [HD0.out]; exact hrk, by rw [HD0.out, HN.out]; exact hnm⟩, by rw [if_pos rfl]; exact hrow5, hr41, hL2⟩
    case round =>
      obtain ⟨k, hk, rfl, ⟨S, c, rfl, hcl, hcM, hrS, hlS⟩, hr5k, hr4k, hbk⟩ := hrel
      clear hrow5 hr41 hL2 hrk HD0
      have hbs := hbk.size
      by_cases hlt : k < m
      · have hltS : k < ss.length := by rw [HM.out]; exact hlt
        obtain ⟨b, o, rfl, hc1, hc2⟩ := (hst.below hbk).at_ hltS
        obtain ⟨hnl, hnum⟩ := hs1 _ (List.getElem_mem hltS)
        have hdn := hm_down_step key ss k hltS
        have hlab : Hm.label ss[k] = ss[k].1 ++ [0] ++ Hm.be ss[k].2 := rfl
        have hCl : (if k = 0 then ([] : List UInt8) else Hm.down key (ss.take k)).length ≤ 32 := by
          rcases k with _ | k
          · simp
          · rw [if_neg (by omega), hm_down_step key ss k (by omega), Hm.expand_len]
            omega
        have HDN := Lib.hid hdn
        have HLAB := Lib.hid hlab
        clear hdn hlab
        generalize (if k = 0 then ([] : List UInt8) else Hm.down key (ss.take k)) = C at *
        generalize Hm.down key (ss.take k) = L at *
        generalize ss[k].1 = nm at *
        generalize ss[k].2 = num at *
        obtain ⟨wc, cp, hcv, hown0, hLc⟩ := conv_own wr nm (by omega)
        have hwcs := hLc.size
        go_upto_region 8 with (first
          | (at_builtin; refine wpList_append_byteQ rfl (.tmp 27) (.tmp 28) 22 rfl wr.heap.size 5 Try.underlying22 byteInfo8 _ nm rfl (hown0.below (below_new wc _)) (by simp only [World.size_alloc]; omega) wc.heap.size 0 1 rfl (((Row.new wc _ _).cell 0).trans rfl) (by omega) ?_; intro v2 w2 hown2 hg2)
          | fail)
        have hg2' : (wc.alloc (.cells #[.int .u8 0] 5)).grownBy w2 (Value.slice (some ⟨wr.heap.size, 0, none⟩) nm.length cp).ownBlock := hg2
        have hL2 : Later wr w2 := Below.grown (hLc.alloc _) hg2' (by simp only [World.size_alloc]; omega) (fun j e => (hown0.at_ j e).1)
        have hbe0 : nm ++ [0] ++ (Hm.be num).take 0 = nm ++ [0] := by simp
        have HB0 := Lib.hid hbe0
        clear hcv hown0 hLc hg2 hg2' hbe0 hwcs
        obtain ⟨w6, rfl⟩ : ∃ y, y = wr := ⟨_, rfl⟩
        go_wp2_with fail
        go_loopw [7, 8] (fun v t wr => ∃ j : Nat, j ≤ 8 ∧ t = .int .i64 (7 - (j : Int)) ∧ OwnQ 5 wr w6.heap.size v (nm ++ [0] ++ (Hm.be num).take j) ∧ Later w6 wr) (fun _ t _ => (intOf t + 1).toNat)
        case atStart => exact ⟨0, by omega, rfl, by rw [HB0.out]; exact hown2, hL2⟩
        case round =>
          obtain ⟨j, hj, rfl, hown, hL⟩ := hrel
          clear hown2 hL2 HB0
          have hwr7 := hL.size
          by_cases hlj : j < 8
          · have hstep := hm_be_step num j hlj
            have hc7 := hL.cell hc2
            obtain ⟨q, hq⟩ : ∃ q, q + j = 7 := ⟨7 - j, by omega⟩
            have hqi : (7 : Int) - (j : Int) = (q : Int) := by omega
            have he : 56 - 8 * j = 8 * q := by omega
            rw [hqi]
            have hnext : nm ++ [0] ++ (Hm.be num).take (j + 1) = nm ++ [0] ++ (Hm.be num).take j ++ [UInt8.ofNat (num / 2 ^ (8 * q))] := by rw [hstep, he]; simp
            have hln : (nm ++ [0] ++ (Hm.be num).take j).length ≤ 1000000000 := by
              simp only [List.length_append, List.length_take, List.length_cons, List.length_nil]
              omega
            have HNX := Lib.hid hnext
            have HQ := Lib.hid hq
            have HQI := Lib.hid hqi
            have hq8 : q ≤ 7 := by omega
            generalize nm ++ [0] ++ (Hm.be num).take j = acc at *
            clear hstep hnext he hq hqi
            go_wp2_with (first
              | (at_builtin; refine wpList_append_byteQ rfl (.tmp 34) (.tmp 45) 22 rfl w6.heap.size 5 Try.underlying22 byteInfo8 _ acc rfl (hown.below (below_new wr _)) (by simp only [World.size_alloc]; omega) wr.heap.size (UInt8.ofNat (num / 2 ^ (8 * q))) 1 rfl ?hz hln ?_; rotate_left; intro v2 w2 hown2 hg2)
              | fail)
            case hz =>
              rw [be_byte]
              exact ((Row.new wr _ _).cell 0).trans rfl
            have hg2' : (wr.alloc (.cells #[.int .u8 ((num : Int) / 2 ^ (8 * q) % 256)] 5)).grownBy w2 u7.ownBlock := hg2
            have hL2 : Later w6 w2 := Below.grown (hL.alloc _) hg2' (by simp only [World.size_alloc]; omega) (fun j e => (hown.at_ j e).1)
            go_roundw
            case rel => exact ⟨j + 1, by omega, by rw [show (q : Int) - 1 = 7 - ((j + 1 : Nat) : Int) from by have := HQI.out; omega], by rw [HNX.out]; exact hown2, hL2⟩
            case measure => first | (simp [intOf]; done) | (simp [intOf]; omega)
          · obtain rfl : j = 8 := by omega
            rw [List.take_of_length_le (by rw [Hm.be_len]; omega), ← HLAB.out] at hown
            obtain ⟨gq, cq, rfl, hq1, hq2, hq3, hrq⟩ := hown.slice
            have hll : (Hm.label ss[k]).length ≤ 100000 := by
              rw [HLAB.out]
              simp only [List.length_append, List.length_cons, List.length_nil, Hm.be_len]
              omega
            generalize hlab : Hm.label ss[k] = lab at *
            have hcvs := run_string_rd (P := Try.prog) wr 22 9 5 (some ⟨gq, 0, none⟩) lab.length cq lab Try.underlying22 Try.underlying5 Try.underlying9 rfl hrq
            have hex := refExpand_any S L.length c L lab 32 wr rfl hcl hcM hlS hll (hrS.later hL) (by decide)
            have hel := Hm.expand_len L lab 32
            obtain ⟨E, hE⟩ : ∃ y, Hm.expand L lab 32 = y := ⟨_, rfl⟩
            rw [hE] at hex hel HDN
            have HEL := Lib.hid hel
            have hr5w := hr5k.later hL
            have hr4w := hr4k.later hL
            have hbw := hbk.trans (hL.below.mono hbs)
            have hd7 : decide ((0 : Int) ≤ 7 - ((8 : Nat) : Int)) = false := by decide
            clear hE hel hlab HLAB hown hrq hL hc1 hc2 hr5k hr4k
            go_upto_region 13 with (first
              | (go_at_call 14; refine hex.mono ?_; clear hex; rintro e w9 ⟨v9, rfl, ⟨A9, c9, rfl, h91, h92, h9r, h9f⟩, hb9⟩)
              | fail)
            have hL9 : Later wr w9 := hb9
            have hr59 := hr5w.later hL9
            have hr49 := hr4w.later hL9
            have hb9' := hbw.trans (hL9.below.mono hbw.size)
            have hset : setFrom (hC C) 0 ((E.take 32).map byteV) = hC E := by
              rw [List.take_of_length_le (by rw [HEL.out]; omega), setFrom_whole _ _ (by rw [List.length_map, HEL.out, hC_size _ hCl]), hC_full E HEL.out]
            have hA9 : ∀ ad, A9 = some ad → ad.block ≠ g4 + 1 := fun ad e => by have := h9f ad e; have := hr5w.lt; omega
            have HSET := Lib.hid hset
            have hg4w9 : g4 + 1 < w9.heap.size := hr59.lt
            have hg5w : w.heap.size ≤ g4 + 1 := by omega
            clear hr5w hr4w hb9 hset h9f
            go_upto_region 14 with (first
              | (refine wpList_slice0 rfl 25 (.tmp 5) rfl (.pointer (some ⟨g4 + 1, 0, none⟩)) rfl (sliceHash _) ?_)
              | (refine wpList_copy_rd rfl (.tmp 54) (.tmp 55) 22 22 rfl 5 Try.underlying22 (by kernel_rfl) (g4 + 1) 0 32 32 A9 32 c9 E HEL.out h9r (by rfl) (by rfl) _ _ hr59 32 rfl (by rw [hC_size _ hCl]; decide) ?_; intro w10 hr10 hg10; rw [HSET.out] at hr10)
              | fail)
            have h9r10 := h9r.grown hg10 (fun b' o' e _ => by intro h; injection h with h; exact hA9 _ e h)
            have hr410 := hr49.grown hg10 (by intro e; injection e with e; omega)
            have hb10 := hb9'.grown hg10 hb9'.size (fun j e => by cases e; exact hg5w)
            have h10s := hg10.size
            clear hr59 hr49 hb9' h9r hg10
            go_wp2_with (first
              | (at_builtin; refine wpList_append_bytes rfl (.tmp 57) (.tmp 58) 22 rfl w10.heap.size 5 Try.underlying22 byteInfo8 _ [] rfl (own_void w10 _ _ (Nat.le_refl _)) A9 32 c9 E rfl HEL.out (h9r10.alloc _) (by simp) (by simp only [World.size_alloc]; omega) ?_; intro v11 w11 hown11 hg11 hat11)
              | fail)
            have hL11 : Later w10 w11 := (below_new w10 (.cells #[] 5)).grown hg11 (by simp only [World.size_alloc]; omega) (fun j e => (own_void w10 5 w10.heap.size (Nat.le_refl _)).at_ j e |>.1)
            rw [List.nil_append] at hown11
            obtain ⟨A11, c11, rfl, h111, h112, h11r⟩ := hown11.slice
            rw [HEL.out] at h111 ⊢
            have hr511 := hr10.later hL11
            have hr411 := hr410.later hL11
            have hb11 := hb10.trans (hL11.below.mono hb10.size)
            unfold maxLen at h112
            clear hown11 hg11 hat11
            go_roundw
            case rel => exact ⟨k + 1, by omega, by go_num, ⟨A11, c11, by rw [HDN.out, HEL.out], by rw [HDN.out, HEL.out]; exact h111, by omega, by rw [HDN.out]; exact h11r, by rw [HDN.out, HEL.out]; decide⟩, by rw [if_neg (by omega), HDN.out]; exact hr511, hr411, hb11⟩
            case measure => simp [intOf]; omega
      · obtain rfl : k = m := by omega
        have htk : ss.take k = ss := List.take_of_length_le (by rw [HM.out]; omega)
        rw [if_neg h0, htk] at hr5k
        have hchl := Hm.child_len key ss
        have hcd : Hm.child key ss = Hm.down key ss := by
          rw [Hm.child_down, if_neg]
          intro e
          have := HM.out
          rw [e] at this
          exact h0 this.symm
        rw [← hcd] at hr5k
        obtain ⟨C, hC⟩ : ∃ y, Hm.child key ss = y := ⟨_, rfl⟩
        rw [hC] at hr5k hchl
        have HCE := Lib.hid hC
        have HCL := Lib.hid hchl
        obtain ⟨wB, hstB, hrB, hgB⟩ := storeH (a := []) (b := C) (by simp) (by rw [hchl]; omega) hr4k
        clear hC hchl htk hst hcd h0
        go_wp2_with (first
          | (refine wpList_load rfl 25 (.tmp 5) rfl (.pointer (some ⟨g4 + 1, 0, none⟩)) rfl (loadH HCL.out hr5k) ?_)
          | (refine wpList_store rfl 25 (.tmp 4) (.tmp 60) rfl (.pointer (some ⟨g4, 0, none⟩)) (.agg (hC C)) rfl rfl hstB ?_)
          | fail)
        refine bodyPost_ret (results_cell_row rfl _ _ g4 25 (hC C) (0, 0) _ rfl hrB Try.underlying25 rfl (by rw [hC_size _ (by rw [HCL.out]; omega)]; exact infoH)) rfl ⟨by rw [HCE.out], hbk.grown hgB hbs (fun j e => by cases e; exact hg4w)⟩
end Go.Proofs.Ytbjclmfhmdalkaa
