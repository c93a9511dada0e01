/- Walks: the document's Parse. -/
import Derived.Test.YtfconncnccgenaaShaT5
set_option linter.unusedVariables false
set_option linter.unusedSimpArgs false
namespace Go.Proofs.Ytfconncnccgenaa
open Go.RowKit
def digTo (c : UInt8) : Nat → Int
  | 0 => -1
  | n + 1 => if ((signB n).toNat : Int) == (c.toNat : Int) then (n : Int) else digTo c n
theorem digTo_all (c : UInt8) : digTo c 16 = dig c := by
  have h : ∀ n : Fin 256, digTo (UInt8.ofNat n.val) 16 = dig (UInt8.ofNat n.val) := by decide +kernel
  have := h ⟨c.toNat, c.toNat_lt⟩
  simpa using this
theorem eqg_eql {x y : Operand} {a b : Int} {W : World} : (eqGuard .eql 5 x y (.int .u8 a) (.int .u8 b)).run Try.prog W = .ok () W := by kernel_rfl
theorem eql8 {a b : Int} {W : World} : (binOp .eql 5 (.int .u8 a) (.int .u8 b)).run Try.prog W = .ok (.bool (a == b)) W := by kernel_rfl
theorem op_index {P : Program} {Q : Exit → Act → World → Prop} {o : Oper} {a : Act} {W : World} {R : Value → World → Prop} {t : TypeId} {x y : Operand} {vx vy v : Value} (ho : o.op = .index t x y) (hx : a.eval x = vx) (hy : a.eval y = vy) (hr : (Instr.index t vx vy).run P W = .ok v W) (h : R v W) : o.wp P a W (fun a' W' => ∃ v, a' = a.put o.dst v ∧ Later W W' ∧ R v W') Q := by
  refine op_value (v := v) (W' := W) ?_ (Later.refl _) h
  unfold execOp
  simp only [ho, hx, hy, hr, Sem.run_bind, Sem.run_pure, Result.andThen_ok]
theorem idxStr {s : ByteArray} {k : Nat} {c : UInt8} (hk : k < s.size) (hc : s[k] = c) (W : World) : (Instr.index 9 (.string s) (.int .i64 (k : Int))).run Try.prog W = .ok (.int .u8 (c.toNat : Int)) W := by
  have h1 : (k : Int) < (s.size : Int) := by omega
  have h2 : (0 : Int) ≤ (k : Int) := by omega
  subst hc
  go_simp
set_option maxHeartbeats 4000000 in
set_option maxRecDepth 100000 in
theorem refParse_any (s : ByteArray) (w : World) (hs : s.size ≤ 1000000) :
    Calls Try.prog 16 #[.string s] w fun e w' => e = .returned (.tuple #[.agg (hC (parseB s.data.toList)), .int .i64 (parseE s.data.toList)]) ∧ Below w.heap.size w w' := by
  have hr1 : Row ((w.alloc (.cells (hC []) 26)).alloc (.cells (hC []) 26)) w.heap.size 26 (hC []) := (Row.new w _ _).alloc _
  have hr2 : Row ((w.alloc (.cells (hC []) 26)).alloc (.cells (hC []) 26)) (w.heap.size + 1) 26 (hC (hp s.data.toList 0)) := by
    have := Row.new (w.alloc (.cells (hC []) 26)) 26 (hC [])
    rwa [World.size_alloc] at this
  have hb2 := below_new2 w (.cells (hC []) 26) (.cells (hC []) 26)
  by_cases h64 : s.size = 64
  · have hn64 : ((s.size : Int) != 64) = false := by rw [bne_eq_false_iff_eq]; omega
    have hn64' : (s.size != 64) = false := by rw [bne_eq_false_iff_eq]; omega
    have hl : s.data.toList.length = 64 := by rw [← h64]; simp
    have H64 := Lib.hid h64
    have HL := Lib.hid hl
    clear h64 hl
    go_enter Try.func16, Try.ntmps16
    go_wp2_with (first
      | (with_reducible refine wpList_alloc rfl 26 rfl (allocH _) ?_))
    go_loopw [5, 6, 7] (fun t _ _ wr => ∃ k : Nat, k ≤ 64 ∧ t = .int .i64 k ∧ digsTo s.data.toList k ∧ Row wr (w.heap.size + 1) 26 (hC (hp s.data.toList k)) ∧ Row wr w.heap.size 26 (hC []) ∧ Below w.heap.size w wr) (fun t _ _ _ => 64 - (intOf t).toNat)
    case atStart => exact ⟨0, by omega, rfl, fun i hi => absurd hi (by omega), hr2, hr1, hb2⟩
    case round =>
      obtain ⟨k, hk, rfl, hdg, hr, hr0, hb⟩ := hrel
      clear hr1 hr2 hb2
      obtain ⟨wo, rfl⟩ : ∃ wo : World, wo = wr := ⟨_, rfl⟩
      by_cases hlt : k < 64
      · have hks : k < s.size := by rw [H64.out]; exact hlt
        obtain ⟨c, hc⟩ : ∃ c, s[k] = c := ⟨_, rfl⟩
        have hix := idxStr hks hc
        have hcl : s.data.toList.getD k 0 = c := by
          rw [← hc, List.getD_eq_getElem?_getD, List.getElem?_eq_getElem (by rw [HL.out]; exact hlt)]
          rfl
        have hcb := c.toNat_lt
        have HIX := Lib.hid hix
        have HCL := Lib.hid hcl
        have HDG := Lib.hid hdg
        clear hc hcl hdg
        go_wp2_with fail
        go_loopw [6, 7] (fun f t wr => ∃ q : Nat, q ≤ 16 ∧ t = .int .u8 q ∧ f = .int .i64 (digTo c q) ∧ Later wo wr) (fun _ t _ => 16 - (intOf t).toNat)
        case atStart => exact ⟨0, by omega, rfl, rfl, Later.refl _⟩
        case round =>
          obtain ⟨q, hq, rfl, rfl, hLq⟩ := hrel
          by_cases hq16 : q < 16
          · have hnx : digTo c (q + 1) = if ((signB q).toNat : Int) == (c.toNat : Int) then (q : Int) else digTo c q := rfl
            have HNX := Lib.hid hnx
            clear hnx
            go_upto_region 11 with fail
            refine (wpIn_wide (n := 0)).1 ?_
            refine wpIn_region_vals wide_wide [Pr.eq (.int .u8 (q : Int)), Pr.eq (.int .u8 ((signB q).toNat : Int)), Pr.eq (.string s), Pr.eq (.int .i64 (k : Int)), Pr.eq (.int .u8 (c.toNat : Int)), Pr.eq (.bool (((signB q).toNat : Int) == (c.toNat : Int)))] (by kernel_rfl) (by kernel_rfl) (by kernel_rfl) (by kernel_rfl) (by kernel_rfl) ⟨?_, ?_, ?_, ?_, ?_, ?_, trivial⟩ ?_
            · exact fun ac W hL he => stepOk_want rfl (op_move rfl (he.keep (.tmp 7) (by kernel_rfl)))
            · intro ac W hL he; refine stepOk_want rfl ?_; have e0 : ac.eval (.tmp 20) = (.int .u8 (q : Int)) := (he.get 0 20 (by kernel_rfl) rfl); exact op_callF (vs := #[.int .u8 (q : Int)]) rfl (by simp only [List.map_toArray, List.map_cons, List.map_nil, e0]) (enters_of Try.func34 (by kernel_rfl) rfl) ((sign_any q W hq16).mono fun e W' ⟨he', hb⟩ => ⟨_, he', hb ▸ Later.refl _, rfl⟩)
            · exact fun ac W hL he => stepOk_want rfl (op_move rfl (he.keep (.tmp 0) (by kernel_rfl)))
            · exact fun ac W hL he => stepOk_want rfl (op_move rfl (he.keep (.tmp 5) (by kernel_rfl)))
            · exact fun ac W hL he => stepOk_want rfl (op_index rfl (he.get 2 22 (by kernel_rfl) rfl) (he.get 3 23 (by kernel_rfl) rfl) (hix W) rfl)
            · exact fun ac W hL he => stepOk_want rfl (op_binOp rfl (he.get 1 21 (by kernel_rfl) rfl) (he.get 4 24 (by kernel_rfl) rfl) eqg_eql eql8 rfl)
            · intro xs W2 hL hx
              have h5 : xs 5 = .bool (((signB q).toNat : Int) == (c.toNat : Int)) := hx 5 (by decide)
              clear hx
              simp only [putL, Nat.reduceAdd, Act.put, List.setIfInBounds_toArray, List.set_cons_succ, List.set_cons_zero, h5]
              clear h5
              have hL2 := hLq.step hL
              obtain ⟨bb, hbb⟩ : ∃ b, (((signB q).toNat : Int) == (c.toNat : Int)) = b := ⟨_, rfl⟩
              rw [hbb]
              have HBB := Lib.hid hbb
              clear hbb
              generalize digTo c q = dq at *
              cases bb
              · go_wp2_with fail
                exact ⟨⟨q + 1, by omega, by go_num, by rw [HNX.out, HBB.out]; rfl, hL2⟩, by simp [intOf]; omega⟩
              · go_wp2_with fail
                exact ⟨⟨q + 1, by omega, by go_num, by rw [HNX.out, HBB.out]; rfl, hL2⟩, by simp [intOf]; omega⟩
          · obtain rfl : q = 16 := by omega
            rw [digTo_all]
            have hrL := hr.later hLq
            have hr0L := hr0.later hLq
            have hbL : Below w.heap.size w wr := hb.trans (hLq.below.mono hb.size)
            clear hr hr0 hb hLq hq16 hq
            obtain ⟨hd1, hd2⟩ := dig_bd c
            obtain ⟨d, hd⟩ : ∃ d, dig c = d := ⟨_, rfl⟩
            rw [hd] at hd1 hd2
            have hdl : dig (s.data.toList.getD k 0) = d := by rw [HCL.out, hd]
            have HDL := Lib.hid hdl
            rw [hd]
            clear hdl hd
            by_cases hneg : d < 0
            · have hdn : decide (d < 0) = true := by simpa using hneg
              have hno : ¬ isHash s.data.toList := fun h => by
                have := h.2 k hlt
                rw [HDL.out] at this
                omega
              obtain ⟨hB, hE⟩ := parse_no hno
              obtain ⟨w9, hst, hr9, hg9⟩ := storeH (a := []) (b := []) (by simp) (by simp) hr0L
              have HB := Lib.hid hB
              have HE := Lib.hid hE
              clear hno hB hE
              go_wp2_with (first
                | (refine wpList_store rfl 26 (.tmp 2) (.tmp 30) rfl (.pointer (some ⟨w.heap.size, 0, none⟩)) (.agg (hC [])) rfl rfl hst ?_))
              refine bodyPost_ret (results_cell_tmp rfl _ _ w.heap.size 26 (hC []) (0, 0) _ (.int .i64 110) rfl rfl hr9 Try.underlying26 rfl (by rw [hC_size [] (by simp)]; exact infoH)) rfl ⟨by rw [HB.out, HE.out], hbL.grown hg9 hbL.size (fun j e => by cases e; exact Nat.le_refl _)⟩
            · obtain ⟨dn, rfl⟩ : ∃ dn : Nat, d = (dn : Int) := ⟨d.toNat, by omega⟩
              have hdn : decide ((dn : Int) < 0) = false := by simp
              have hq : k / 2 < (hp s.data.toList k).length := by rw [hp_len]; omega
              have hcx := (hrL.cell (k / 2)).trans (hC_get _ _ hq (by rw [hp_len]; omega))
              have hfx := hrL.frozen (k / 2)
              have hnx : hp s.data.toList (k + 1) = (hp s.data.toList k).set (k / 2) (newb ((hp s.data.toList k)[k / 2]) dn) := by
                rw [hp, HDL.out, List.getD_eq_getElem?_getD, List.getElem?_eq_getElem hq]
                rfl
              have hset := hC_set (hp s.data.toList k) (k / 2) (newb ((hp s.data.toList k)[k / 2]) dn) (hp_len _ _)
              rw [← hnx] at hset
              have HSET := Lib.hid hset
              have hdg' : digsTo s.data.toList (k + 1) := fun i hi => by
                by_cases e : i = k
                · subst e; rw [HDL.out]; omega
                · exact HDG.out i (by omega)
              have HDG' := Lib.hid hdg'
              clear hnx hset hdg'
              generalize (hp s.data.toList k)[k / 2] = x at *
              have hor : (x.toNat : Int) * 16 % 256 + (dn : Int) = ((newb x dn).toNat : Int) := by
                unfold newb
                rw [UInt8.toNat_ofNat']
                omega
              have hxl := x.toNat_lt
              have hdm : (dn : Int) % 256 = (dn : Int) := by omega
              generalize newb x dn = y at *
              go_wp2_with fail
              go_roundw
              case rel => exact ⟨k + 1, by omega, by go_num, HDG'.out, by rw [← HSET.out]; exact hrL.set _ _, hr0L.far (by simp) _, hbL.setCell (p := ⟨w.heap.size + 1, k / 2, none⟩) (Nat.le_succ _) _⟩
              case measure => simp [intOf]; omega
      · obtain rfl : k = 64 := by omega
        have hyes : isHash s.data.toList := ⟨HL.out, hdg⟩
        obtain ⟨hB, hE⟩ := parse_ok hyes
        have hHl := hp_len s.data.toList 64
        generalize hp s.data.toList 64 = H at *
        have hld := loadH hHl hr
        obtain ⟨w9, hst, hr9, hg9⟩ := storeH (a := []) (b := H) (by simp) (by omega) hr0
        have HB := Lib.hid hB
        have HE := Lib.hid hE
        have hsz := hC_size H (by omega)
        have HSZ := Lib.hid hsz
        clear hyes hB hE hdg hsz hHl
        go_wp2_with (first
          | (refine wpList_load rfl 26 (.tmp 4) rfl (.pointer (some ⟨w.heap.size + 1, 0, none⟩)) rfl hld ?_)
          | (refine wpList_store rfl 26 (.tmp 2) (.tmp 42) rfl (.pointer (some ⟨w.heap.size, 0, none⟩)) (.agg (hC H)) rfl rfl hst ?_))
        refine bodyPost_ret (results_cell_tmp rfl _ _ w.heap.size 26 (hC H) (0, 0) _ (.int .i64 0) rfl rfl hr9 Try.underlying26 rfl (by rw [HSZ.out]; exact infoH)) rfl ⟨by rw [HB.out, HE.out], hb.grown hg9 hb.size (fun j e => by cases e; exact Nat.le_refl _)⟩
  · have hno : ¬ isHash s.data.toList := fun h => by
      have := h.1
      simp at this
      exact h64 this
    obtain ⟨hB, hE⟩ := parse_no hno
    have HB := Lib.hid hB
    have HE := Lib.hid hE
    have hr2' : Row ((w.alloc (.cells (hC []) 26)).alloc (.cells (hC []) 26)) (w.heap.size + 1) 26 (hC []) := hr2
    have hld : (Instr.loadAt 26 (.pointer (some ⟨w.heap.size + 1, 0, none⟩))).run Try.prog ((w.alloc (.cells (hC []) 26)).alloc (.cells (hC []) 26)) = .ok (.agg (hC [])) ((w.alloc (.cells (hC []) 26)).alloc (.cells (hC []) 26)) := loadH (h := Sha.zeros 32) (by simp [Sha.zeros]) hr2'
    obtain ⟨w9, hst, hr9, hg9⟩ := storeH (a := []) (b := []) (by simp) (by simp) hr1
    have hb1 : Below w.heap.size w w9 := hb2.grown hg9 hb2.size (fun j e => by cases e; exact Nat.le_refl _)
    have hn64 : ((s.size : Int) != 64) = true := by rw [bne_iff_ne]; omega
    have hn64' : (s.size != 64) = true := by rw [bne_iff_ne]; omega
    clear hno hB hE h64 hr2 hr2' hr1 hb2
    go_enter Try.func16, Try.ntmps16
    go_wp2_with (first
      | (with_reducible refine wpList_alloc rfl 26 rfl (allocH _) ?_)
      | (refine wpList_load rfl 26 (.tmp 4) rfl (.pointer (some ⟨w.heap.size + 1, 0, none⟩)) rfl hld ?_)
      | (refine wpList_store rfl 26 (.tmp 2) (.tmp 11) rfl (.pointer (some ⟨w.heap.size, 0, none⟩)) (.agg (hC [])) rfl rfl hst ?_))
    refine bodyPost_ret (results_cell_tmp rfl _ _ w.heap.size 26 (hC []) (0, 0) _ (.int .i64 110) rfl rfl hr9 Try.underlying26 rfl (by rw [hC_size [] (by simp)]; exact infoH)) rfl ⟨by rw [HB.out, HE.out], hb1⟩
end Go.Proofs.Ytfconncnccgenaa
