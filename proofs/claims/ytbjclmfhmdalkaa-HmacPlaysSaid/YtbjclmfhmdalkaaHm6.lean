/- Walks: the tag of parts; whether that is the tag; the key that is extracted. -/
import Derived.Test.YtbjclmfhmdalkaaHm5
set_option linter.unusedVariables false
set_option linter.unusedSimpArgs false
namespace Go.Proofs.Ytbjclmfhmdalkaa
open Go.RowKit
set_option maxRecDepth 100000 in
set_option maxHeartbeats 4000000 in
theorem hmTag_any (A : Option Addr) (n ca : Nat) (key : List UInt8) (B : Option Addr) (m cb : Nat) (ls : List (List UInt8)) (w : World) (hn : key.length = n) (hc : n ≤ ca) (hcm : ca ≤ 9223372036854775807) (hnm : n ≤ 1000000) (hr : Rd w A key)
    (hls : ls.length = m) (hmm : m ≤ 1000000) (hmax : ls.flatten.length ≤ 100000000) (hrs : RdsC w B ls) :
    Calls Try.prog 20 #[.slice A n ca, .slice B m cb] w fun e w' => e = .returned (.agg (hC (Hm.tag key ls.flatten))) ∧ Below w.heap.size w w' := by
  subst hls
  have hrowA := Row.new w 25 (hC [])
  have hbA := below_new w (.cells (hC []) 25)
  have hnew := newMac_any A n ca key (w.alloc (.cells (hC []) 25)) hn hc hcm hnm (hr.below hbA)
  have HMAX := Lib.hid hmax
  have HR := Lib.hid hrs
  clear hmax hrs hn hr
  go_enter Try.func20, Try.ntmps20
  go_wp2_with (first
    | (with_reducible refine wpList_alloc rfl 25 rfl (allocH _) ?_)
    | (go_at_call 18; refine hnew.mono ?_; clear hnew; rintro e w1 ⟨g, gr, rfl, hmac1, hg1, hgr1, hL1⟩)
    | fail)
  have hb1' : Below w.heap.size w w1 := hbA.trans (hL1.below.mono hbA.size)
  have hsz : (w.alloc (.cells (hC []) 25)).heap.size = w.heap.size + 1 := World.size_alloc _ _
  have hgw : w.heap.size < gr := by omega
  have hrow1 : Row w1 w.heap.size 25 (hC []) := hrowA.later hL1
  obtain ⟨g4, hg4⟩ : ∃ q, q = w.heap.size := ⟨_, rfl⟩
  rw [← hg4] at hrow1 ⊢
  have hg4r : g4 ≠ gr := by omega
  have hg4w : w.heap.size ≤ g4 := by omega
  have hgrw : w.heap.size ≤ gr := by omega
  clear hL1 hbA hrowA hg1 hgr1 hsz hg4
  go_loopw [12] (fun t wr => ∃ k : Nat, k ≤ ls.length ∧ t = .int .i64 k ∧ IsMac wr g gr key (ls.take k).flatten ∧ Row wr g4 25 (hC []) ∧ Below w.heap.size w wr) (fun t _ => ls.length - (intOf t).toNat)
  case atStart => exact ⟨0, by omega, rfl, hmac1, hrow1, hb1'⟩
  case round =>
    obtain ⟨k, hk, rfl, hmac, hrow, hb⟩ := hrel
    clear hmac1 hrow1 hb1'
    have hsz0 := hb.size
    by_cases hlt : k < ls.length
    · obtain ⟨b, o, Ai, ci, rfl, hc1, hci, hcim, hrd1⟩ := HR.out.at_ hlt
      have hc : wr.cell? ⟨b, o + k, none⟩ = some (.slice Ai ls[k].length ci) := (hb.cell (p := ⟨b, o + k, none⟩) (block_lt_of_cell hc1)).trans hc1
      have hrd := hrd1.below hb
      have hlt1 : ∀ ad, Ai = some ad → ls[k] ≠ [] → ad.block ≠ gr := fun ad e hl => by
        obtain ⟨b', o', e', _⟩ := hrd1 hl
        rw [e] at e'
        injection e' with e'
        have := hrd1.lt (e.trans (congrArg some e')) hl
        rw [e']
        exact Nat.ne_of_lt (Nat.lt_trans this hgw)
      have hnext : (ls.take (k + 1)).flatten = (ls.take k).flatten ++ ls[k] := by
        rw [List.take_succ_eq_append_getElem hlt, List.flatten_append]; simp
      have hpl : (ls.take k).flatten.length + ls[k].length ≤ 1000000000 := by
        have := take_flat ls (k + 1)
        have h2 := HMAX.out
        rw [hnext, List.length_append] at this
        omega
      have HN := Lib.hid hnext
      have HL := Lib.hid hlt1
      clear hnext hlt1 hc1 hrd1
      generalize (ls.take k).flatten = z at *
      generalize ls[k] = l at *
      go_wp2_with (first | (go_at_call 19; refine (writeMac_any g gr key z Ai _ ci l _ hmac rfl hci hcim hrd HL.out hpl).mono ?_; rintro e w2 ⟨rfl, hmac2, hg2⟩) | fail)
      have hrow2 := hrow.grown hg2 (by intro e; injection e with e; exact hg4r e)
      have hb2 := hb.grown hg2 hb.size (fun j e => by cases e; exact hgrw)
      go_roundw
      case rel => exact ⟨k + 1, by omega, by go_num, by rw [HN.out]; exact hmac2, hrow2, hb2⟩
      case measure => simp [intOf]; omega
    · obtain rfl : k = ls.length := by omega
      rw [List.take_length] at hmac
      have hL := HMAX.out
      have hslen : (Hm.tag key ls.flatten).length = 32 := Hm.tag_len _ _
      have htag := macTag_any g gr key ls.flatten wr hmac (by omega)
      obtain ⟨T, hT⟩ : ∃ z, Hm.tag key ls.flatten = z := ⟨_, rfl⟩
      rw [hT] at htag hslen
      have HT := Lib.hid hT
      have HTL := Lib.hid hslen
      clear hT hslen hmac
      go_wp2_with (first
        | (go_at_call 21; refine htag.mono ?_; clear htag; rintro e w2 ⟨rfl, hb2⟩; have hrow2 := hrow.belowAll hb2; obtain ⟨w9, hst, hr9, hg9⟩ := storeH (a := []) (b := T) (by simp) (by rw [HTL.out]; omega) hrow2)
        | (refine wpList_store rfl 25 (.tmp 4) (.tmp 21) rfl (.pointer (some ⟨g4, 0, none⟩)) (.agg (hC T)) rfl rfl hst ?_)
        | fail)
      have hb2' : Below w.heap.size w w2 := hb.trans (hb2.mono hb.size)
      refine bodyPost_ret (results_cell_row rfl _ _ g4 25 (hC T) (0, 0) _ rfl hr9 Try.underlying25 rfl (by rw [hC_size _ (by rw [HTL.out]; omega)]; exact infoH)) rfl ⟨by rw [HT.out], hb2'.grown hg9 hb2'.size (fun j e => by cases e; exact hg4w)⟩
set_option maxRecDepth 100000 in
theorem right_any (A : Option Addr) (n ca : Nat) (key : List UInt8) (x : List UInt8) (B : Option Addr) (m cb : Nat) (ls : List (List UInt8)) (w : World) (hn : key.length = n) (hc : n ≤ ca) (hcm : ca ≤ 9223372036854775807) (hnm : n ≤ 1000000) (hr : Rd w A key)
    (hx : x.length = 32) (hls : ls.length = m) (hmm : m ≤ 1000000) (hmax : ls.flatten.length ≤ 100000000) (hrs : RdsC w B ls) :
    Calls Try.prog 12 #[.slice A n ca, .agg (hC x), .slice B m cb] w fun e w' => e = .returned (.bool (Hm.tag key ls.flatten == x)) ∧ Below w.heap.size w w' := by
  have hrow := Row.new w 25 (hC x)
  have hb0 := below_new w (.cells (hC x) 25)
  have HTAG : Hid (∀ W, Later (w.alloc (.cells (hC x) 25)) W → Calls Try.prog 20 #[.slice A n ca, .slice B m cb] W fun e w' => e = .returned (.agg (hC (Hm.tag key ls.flatten))) ∧ Below W.heap.size W w') := Lib.hid (fun W hL => hmTag_any A n ca key B m cb ls W hn hc hcm hnm ((hr.below hb0).later hL) hls hmm hmax ((hrs.below hb0).below hL))
  obtain ⟨T, hT⟩ : ∃ z, Hm.tag key ls.flatten = z := ⟨_, rfl⟩
  have hTl : T.length = 32 := by rw [← hT]; exact Hm.tag_len _ _
  rw [hT] at HTAG ⊢
  have HEQ := Lib.hid (fun W => eqlHash T x hTl hx W)
  have HX := Lib.hid hx
  obtain ⟨q, hq⟩ : ∃ q, (T == x) = q := ⟨_, rfl⟩
  rw [hq] at HEQ ⊢
  clear hn hr hx hls hmax hrs hT hTl hq
  go_enter Try.func12, Try.ntmps12
  go_upto_region 1 with (first
    | (refine wpList_box rfl 25 (.tmp 1) rfl (.agg (hC x)) rfl (boxH x HX.out _) ?_)
    | fail)
  obtain ⟨g, hg⟩ : ∃ q, q = w.heap.size := ⟨_, rfl⟩
  rw [← hg] at hrow ⊢
  have hbs := hb0.size
  clear hg
  generalize w.alloc (.cells (hC x) 25) = w1 at *
  refine (wpIn_wide (n := 0)).1 ?_
  refine wpIn_region_vals wide_wide [Pr.eq (.slice A n ca), Pr.eq (.slice B m cb), Pr.eq (.agg (hC T)), Pr.eq (.agg (hC x)), Pr.eq (.bool q), Pr.eq (.bool q)] (by kernel_rfl) (by kernel_rfl) (by kernel_rfl) (by kernel_rfl) (by kernel_rfl) ⟨?_, ?_, ?_, ?_, ?_, ?_, trivial⟩ ?_
  · exact fun ac W hL he => stepOk_want rfl (op_move rfl (he.keep (.tmp 0) (by kernel_rfl)))
  · exact fun ac W hL he => stepOk_want rfl (op_move rfl (he.keep (.tmp 2) (by kernel_rfl)))
  · intro ac W hL he; refine stepOk_want rfl ?_; have e0 : ac.eval (.tmp 7) = (.slice A n ca) := (he.get 0 7 (by kernel_rfl) rfl); have e1 : ac.eval (.tmp 8) = (.slice B m cb) := (he.get 1 8 (by kernel_rfl) rfl); exact op_callF (vs := #[.slice A n ca, .slice B m cb]) rfl (by simp only [List.map_toArray, List.map_cons, List.map_nil, e0, e1]) (enters_of Try.func20 (by kernel_rfl) rfl) ((HTAG.out W hL).mono fun e W' ⟨he', hb⟩ => ⟨_, he', hb, rfl⟩)
  · exact fun ac W hL he => stepOk_want rfl (op_load rfl (he.keep (.tmp 4) (by kernel_rfl)) (loadH HX.out (hrow.later hL)) rfl)
  · exact fun ac W hL he => stepOk_want rfl (op_binOp rfl (he.get 2 9 (by kernel_rfl) rfl) (he.get 3 10 (by kernel_rfl) rfl) (eqgHash _ _ _ _ _ W) (HEQ.out W) rfl)
  · exact fun ac W hL he => stepOk_want rfl (op_assign rfl (he.get 4 11 (by kernel_rfl) rfl))
  intro xs W hL hxs
  have he6 : xs 5 = .bool q := hxs 5 (by decide)
  clear hxs
  simp only [putL, Nat.reduceAdd, Act.put, List.setIfInBounds_toArray, List.set_cons_succ, List.set_cons_zero, he6]
  go_wp2_with fail
  go_ret
  exact ⟨rfl, hb0.trans (hL.below.mono hbs)⟩
set_option maxRecDepth 100000 in
theorem extract_any (A : Option Addr) (n ca : Nat) (key : List UInt8) (B : Option Addr) (m cb : Nat) (ls : List (List UInt8)) (w : World) (hn : key.length = n) (hc : n ≤ ca) (hcm : ca ≤ 9223372036854775807) (hnm : n ≤ 1000000) (hr : Rd w A key)
    (hls : ls.length = m) (hmm : m ≤ 1000000) (hmax : ls.flatten.length ≤ 100000000) (hrs : RdsC w B ls) :
    Calls Try.prog 23 #[.slice A n ca, .slice B m cb] w fun e w' => e = .returned (.agg (hC (Hm.tag key ls.flatten))) ∧ Below w.heap.size w w' := by
  have hrow := Row.new w 25 (hC [])
  have hb0 := below_new w (.cells (hC []) 25)
  have htag := hmTag_any A n ca key B m cb ls (w.alloc (.cells (hC []) 25)) hn hc hcm hnm (hr.below hb0) hls hmm hmax (hrs.below hb0)
  obtain ⟨T, hT⟩ : ∃ z, Hm.tag key ls.flatten = z := ⟨_, rfl⟩
  have hTl : T.length = 32 := by rw [← hT]; exact Hm.tag_len _ _
  rw [hT] at htag ⊢
  have HTL := Lib.hid hTl
  clear hn hr hls hmax hrs hT hTl
  go_enter Try.func23, Try.ntmps23
  go_wp2_with (first
    | (with_reducible refine wpList_alloc rfl 25 rfl (allocH _) ?_)
    | (go_at_call 20; refine htag.mono ?_; clear htag; rintro e w2 ⟨rfl, hb2⟩; have hrow2 := hrow.belowAll hb2; obtain ⟨w9, hst, hr9, hg9⟩ := storeH (a := []) (b := T) (by simp) (by rw [HTL.out]; omega) hrow2)
    | (refine wpList_store rfl 25 (.tmp 4) (.tmp 7) rfl (.pointer (some ⟨w.heap.size, 0, none⟩)) (.agg (hC T)) rfl rfl hst ?_)
    | fail)
  have hb2' : Below w.heap.size w w2 := hb0.trans (hb2.mono hb0.size)
  refine bodyPost_ret (results_cell_row rfl _ _ w.heap.size 25 (hC T) (0, 0) _ rfl hr9 Try.underlying25 rfl (by rw [hC_size _ (by rw [HTL.out]; omega)]; exact infoH)) rfl ⟨rfl, hb2'.grown hg9 hb2'.size (fun j e => by cases e; exact Nat.le_refl _)⟩
end Go.Proofs.Ytbjclmfhmdalkaa
