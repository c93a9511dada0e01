/- Walks: the program's Parse. -/
import Derived.Test.YtfconncnccgenaaShaT3
set_option linter.unusedVariables false
set_option linter.unusedSimpArgs false
namespace Go.Proofs.Ytfconncnccgenaa
open Go.RowKit
instance (l : List UInt8) (n : Nat) : Decidable (digsTo l n) := by unfold digsTo; exact inferInstance
instance (l : List UInt8) : Decidable (isHash l) := by unfold isHash; exact inferInstance
def parseB (l : List UInt8) : List UInt8 := if isHash l then hp l 64 else []
def parseE (l : List UInt8) : Int := if isHash l then 0 else 110
theorem parse_ok {l : List UInt8} (h : isHash l) : parseB l = hp l 64 ∧ parseE l = 0 := ⟨if_pos h, if_pos h⟩
theorem parse_no {l : List UInt8} (h : ¬ isHash l) : parseB l = [] ∧ parseE l = 110 := ⟨if_neg h, if_neg h⟩
theorem parseB_len (l : List UInt8) : (parseB l).length ≤ 32 := by unfold parseB; split; (rw [hp_len]; omega); simp
theorem loop_len (bs : ByteArray) : ∀ (n i : Nat) (r : List UInt8), bs.size - i = n → (ByteArray.toList.loop bs i r).length = n + r.length := by
  intro n
  induction n with
  | zero =>
    intro i r h
    rw [ByteArray.toList.loop, if_neg (by omega)]
    simp
  | succ n ih =>
    intro i r h
    rw [ByteArray.toList.loop, if_pos (by omega), ih (i + 1) _ (by omega), List.length_cons]
    omega
theorem toList_nonempty (bs : ByteArray) (h : 0 < bs.size) : bs.toList.isEmpty = false := by
  have := loop_len bs bs.size 0 [] (by omega)
  cases h2 : bs.toList with
  | nil =>
    unfold ByteArray.toList at h2
    rw [h2] at this
    simp at this
    omega
  | cons _ _ => rfl
set_option maxHeartbeats 4000000 in
set_option maxRecDepth 100000 in
theorem parse_any (s : ByteArray) (w : World) (hs : s.size ≤ 1000000) :
    Calls Try.prog 15 #[.string s] w fun e w' => e = .returned (.tuple #[.agg (hC (parseB s.data.toList)), .int .i64 (parseE s.data.toList)]) ∧ Below w.heap.size w w' := by
  by_cases h0 : s.size = 0
  · have hl : s.data.toList = [] := List.eq_nil_of_length_eq_zero (by simpa using h0)
    have hno : ¬ isHash s.data.toList := fun h => by
      have := h.1
      rw [hl] at this
      simp at this
    obtain ⟨hB, hE⟩ := parse_no hno
    have HB := Lib.hid hB
    have HE := Lib.hid hE
    have hrow := Row.new w 26 (hC [])
    have hld : (Instr.loadAt 26 (.pointer (some ⟨w.heap.size, 0, none⟩))).run Try.prog (w.alloc (.cells (hC []) 26)) = .ok (.agg (hC [])) (w.alloc (.cells (hC []) 26)) := loadH (h := Sha.zeros 32) (by simp [Sha.zeros]) hrow
    obtain ⟨w9, hst, hr9, hg9⟩ := storeH (a := []) (b := []) (by simp) (by simp) hrow
    have hs0 : s = ⟨#[]⟩ := by
      rcases s with ⟨⟨l⟩⟩
      have : l = [] := hl
      rw [this]
    have hb1 : Below w.heap.size w w9 := (below_new w _).grown hg9 (by simp only [World.size_alloc]; omega) (fun j e => by cases e; exact Nat.le_refl _)
    subst hs0
    clear hno hB hE hl h0
    go_enter Try.func15, Try.ntmps15
    go_wp2_with (first
      | (with_reducible refine wpList_alloc rfl 26 rfl (allocH _) ?_))
    refine wp_loop_rounds 1 ?_
    rw [rounds_succ]
    go_wp2_with (first
      | (refine wpList_load rfl 26 (.tmp 2) rfl (.pointer (some ⟨w.heap.size, 0, none⟩)) rfl hld ?_)
      | (refine wpList_store rfl 26 (.tmp 2) (.tmp 37) rfl (.pointer (some ⟨w.heap.size, 0, none⟩)) (.agg (hC [])) rfl rfl hst ?_))
    refine bodyPost_ret (results_cell_tmp rfl _ _ w.heap.size 26 (hC []) (0, 0) _ (.int .i64 110) rfl rfl hr9 Try.underlying26 rfl (by rw [hC_size [] (by simp)]; exact infoH)) rfl ⟨by rw [HB.out, HE.out], hb1⟩
  by_cases h64 : s.size = 64
  · have hn64 : ((s.size : Int) != 64) = false := by rw [bne_eq_false_iff_eq]; omega
    have hn64' : (s.size != 64) = false := by rw [bne_eq_false_iff_eq]; omega
    have hl : s.data.toList.length = 64 := by rw [← h64]; simp
    have hrow0 : Row (w.alloc (.cells (hC []) 26)) w.heap.size 26 (hC (hp s.data.toList 0)) := Row.new w _ _
    have hne : s.data.toList ≠ [] := by intro e; rw [e] at hl; simp at hl
    have H64 := Lib.hid h64
    have HNE := Lib.hid hne
    have HL := Lib.hid hl
    clear h64 h0 hl hne
    go_enter Try.func15, Try.ntmps15
    go_wp2_with (first
      | (with_reducible refine wpList_alloc rfl 26 rfl (allocH _) ?_))
    go_loopw [4, 5, 8] (fun _ _ t wr => ∃ k : Nat, k ≤ 64 ∧ t = .int .i64 k ∧ digsTo s.data.toList k ∧ Row wr w.heap.size 26 (hC (hp s.data.toList k)) ∧ Below w.heap.size w wr) (fun _ _ t _ => 64 - (intOf t).toNat)
    case atStart => exact ⟨0, by omega, rfl, fun i hi => absurd hi (by omega), hrow0, below_new w _⟩
    case round =>
      obtain ⟨k, hk, rfl, hdg, hr, hb⟩ := hrel
      clear hrow0
      by_cases hlt : k < 64
      · have hks : k < s.size := by rw [H64.out]; exact hlt
        obtain ⟨c, hc⟩ : ∃ c, s[k] = c := ⟨_, rfl⟩
        have hcl : s.data.toList.getD k 0 = c := by
          rw [← hc, List.getD_eq_getElem?_getD, List.getElem?_eq_getElem (by rw [HL.out]; exact hlt)]
          rfl
        have hcb := c.toNat_lt
        obtain ⟨hd1, hd2⟩ := dig_bd c
        obtain ⟨d, hd⟩ : ∃ d, dig c = d := ⟨_, rfl⟩
        rw [hd] at hd1 hd2
        have hdl : dig (s.data.toList.getD k 0) = d := by rw [hcl, hd]
        have HD := Lib.hid hd
        have HDL := Lib.hid hdl
        have HDG := Lib.hid hdg
        clear hcl hdg hd hdl
        by_cases hneg : d < 0
        · have hdn : decide (d < 0) = true := by simpa using hneg
          have hno : ¬ isHash s.data.toList := fun h => by
            have := h.2 k hlt
            rw [HDL.out] at this
            omega
          obtain ⟨hB, hE⟩ := parse_no hno
          obtain ⟨w9, hst, hr9, hg9⟩ := storeH (a := hp s.data.toList k) (b := []) (by rw [hp_len]; omega) (by simp) hr
          have HB := Lib.hid hB
          have HE := Lib.hid hE
          clear hno hB hE
          go_wp2_with (first
            | (go_at_call 35; refine (idxByte_any c _).mono ?_; rintro e w' ⟨rfl, rfl⟩; rw [HD.out])
            | (refine wpList_store rfl 26 (.tmp 2) (.tmp 22) rfl (.pointer (some ⟨w.heap.size, 0, none⟩)) (.agg (hC [])) rfl rfl hst ?_))
          refine bodyPost_ret (results_cell_tmp rfl _ _ w.heap.size 26 (hC []) (0, 0) _ (.int .i64 110) rfl rfl hr9 Try.underlying26 rfl (by rw [hC_size [] (by simp)]; exact infoH)) rfl ⟨by rw [HB.out, HE.out], hb.grown hg9 hb.size (fun j e => by cases e; exact Nat.le_refl _)⟩
        · obtain ⟨dn, rfl⟩ : ∃ dn : Nat, d = (dn : Int) := ⟨d.toNat, by omega⟩
          have hdn : decide ((dn : Int) < 0) = false := by simp
          have hq : k / 2 < (hp s.data.toList k).length := by rw [hp_len]; omega
          have hcx := (hr.cell (k / 2)).trans (hC_get _ _ hq (by rw [hp_len]; omega))
          have hfx := hr.frozen (k / 2)
          have hnx : hp s.data.toList (k + 1) = (hp s.data.toList k).set (k / 2) (newb ((hp s.data.toList k)[k / 2]) dn) := by
            rw [hp, HDL.out, List.getD_eq_getElem?_getD, List.getElem?_eq_getElem hq]
            rfl
          have hset := hC_set (hp s.data.toList k) (k / 2) (newb ((hp s.data.toList k)[k / 2]) dn) (hp_len _ _)
          rw [← hnx] at hset
          have HSET := Lib.hid hset
          have hdg' : digsTo s.data.toList (k + 1) := fun i hi => by
            by_cases e : i = k
            · subst e; rw [HDL.out]; omega
            · exact HDG.out i (by omega)
          have HDG' := Lib.hid hdg'
          clear hnx hset hdg'
          generalize (hp s.data.toList k)[k / 2] = x at *
          have hor := or_new x dn (by omega)
          have hxl := x.toNat_lt
          have hdm : (dn : Int) % 256 = (dn : Int) := by omega
          generalize newb x dn = y at *
          go_wp2_with (first
            | (go_at_call 35; refine (idxByte_any c _).mono ?_; rintro e w' ⟨rfl, rfl⟩; rw [HD.out]))
          go_roundw
          case rel => exact ⟨k + 1, by omega, by go_num, HDG'.out, by rw [← HSET.out]; exact hr.set _ _, hb.setCell (p := ⟨w.heap.size, k / 2, none⟩) (Nat.le_refl _) _⟩
          case measure => simp [intOf]; omega
      · obtain rfl : k = 64 := by omega
        have hyes : isHash s.data.toList := ⟨HL.out, hdg⟩
        obtain ⟨hB, hE⟩ := parse_ok hyes
        have hHl := hp_len s.data.toList 64
        generalize hp s.data.toList 64 = H at *
        have hld := loadH hHl hr
        obtain ⟨w9, hst, hr9, hg9⟩ := storeH (a := H) (b := H) (by omega) (by omega) hr
        have hnl : decide (64 < s.size) = false := by have := H64.out; simp; omega
        have hnl2 : decide ((64 : Int) < (s.size : Int)) = false := by have := H64.out; simp; omega
        have hemp : s.data.toList.isEmpty = false := by cases h : s.data.toList with
          | nil => exact absurd h HNE.out
          | cons _ _ => rfl
        have hemp3 := toList_nonempty s (by have := H64.out; omega)
        have hemp4 : s.toList ≠ [] := fun e => by rw [e] at hemp3; cases hemp3
        have hemp2 : ¬ s.data.toList = [] := HNE.out
        clear hemp4
        have HB := Lib.hid hB
        have HE := Lib.hid hE
        have hsz := hC_size H (by omega)
        have HSZ := Lib.hid hsz
        clear hyes hB hE hdg hsz hHl
        go_wp2_with (first
          | (refine wpList_load rfl 26 (.tmp 2) rfl (.pointer (some ⟨w.heap.size, 0, none⟩)) rfl hld ?_)
          | (refine wpList_store rfl 26 (.tmp 2) (.tmp 38) rfl (.pointer (some ⟨w.heap.size, 0, none⟩)) (.agg (hC H)) rfl rfl hst ?_))
        refine bodyPost_ret (results_cell_tmp rfl _ _ w.heap.size 26 (hC H) (0, 0) _ (.int .i64 0) rfl rfl hr9 Try.underlying26 rfl (by rw [HSZ.out]; exact infoH)) rfl ⟨by rw [HB.out, HE.out], hb.grown hg9 hb.size (fun j e => by cases e; exact Nat.le_refl _)⟩
  · have hno : ¬ isHash s.data.toList := fun h => by
      have := h.1
      simp at this
      exact h64 this
    obtain ⟨hB, hE⟩ := parse_no hno
    have HB := Lib.hid hB
    have HE := Lib.hid hE
    have hrow := Row.new w 26 (hC [])
    obtain ⟨w9, hst, hr9, hg9⟩ := storeH (a := []) (b := []) (by simp) (by simp) hrow
    have hb1 : Below w.heap.size w w9 := (below_new w _).grown hg9 (by simp only [World.size_alloc]; omega) (fun j e => by cases e; exact Nat.le_refl _)
    have hks : 0 < s.size := by omega
    have hn64 : ((s.size : Int) != 64) = true := by rw [bne_iff_ne]; omega
    have hn64' : (s.size != 64) = true := by rw [bne_iff_ne]; omega
    obtain ⟨c, hc⟩ : ∃ c, s[0] = c := ⟨_, rfl⟩
    have hcb := c.toNat_lt
    obtain ⟨d, hd⟩ : ∃ d, dig c = d := ⟨_, rfl⟩
    have HD := Lib.hid hd
    clear hno hB hE h64 h0 hd
    by_cases hneg : d < 0
    all_goals
      go_enter Try.func15, Try.ntmps15
      go_wp2_with (first
        | (with_reducible refine wpList_alloc rfl 26 rfl (allocH _) ?_))
      refine wp_loop_rounds 1 ?_
      rw [rounds_succ]
      go_wp2_with (first
        | (go_at_call 35; refine (idxByte_any c _).mono ?_; rintro e w' ⟨rfl, rfl⟩; rw [HD.out])
        | (refine wpList_store rfl 26 (.tmp 2) (.tmp 22) rfl (.pointer (some ⟨w.heap.size, 0, none⟩)) (.agg (hC [])) rfl rfl hst ?_))
      refine bodyPost_ret (results_cell_tmp rfl _ _ w.heap.size 26 (hC []) (0, 0) _ (.int .i64 110) rfl rfl hr9 Try.underlying26 rfl (by rw [hC_size [] (by simp)]; exact infoH)) rfl ⟨by rw [HB.out, HE.out], hb1⟩
end Go.Proofs.Ytfconncnccgenaa
