/- Walks, msgs: terms; what kinds ask besides. -/
import Derived.Test.YtcajhdmppfiaeaaGreatGk9
set_option linter.unusedVariables false
set_option linter.unusedSimpArgs false
namespace Go.Proofs.YtcajhdmppfiaeaaGreat
open Go.RowKit Ms
set_option maxRecDepth 100000 in
theorem cterms_any (s : Said) (hs : s.wf) (w : World) : Calls Tryz.prog 121 #[.agg (termsC s)] w fun e w' => e = .returned (.int .i64 (if tmB s then 0 else 2)) ∧ Later w w' := by
  have kq := Row.new w 27 (termsC s)
  have hb := below_new w (.cells (termsC s) 27)
  have hbx := boxTerms hs w
  obtain ⟨b, hbb⟩ : ∃ b, tmB s = b := ⟨_, rfl⟩
  rw [hbb]
  have HB := Lib.hid hb
  have HBB := Lib.hid hbb
  have HLD := Lib.hid (loadTerms hs kq)
  clear hb hbb kq
  cases b
  all_goals
    go_enter Tryz.func121, Tryz.ntmps121
    go_upto_region 1 with fail
    obtain ⟨q, hq⟩ : ∃ q, q = w.heap.size := ⟨_, rfl⟩
    rw [← hq] at HLD ⊢
    clear hbx hq
    generalize w.alloc (.cells (termsC s) 27) = w1 at *
    have hld := HLD.out
    clear HLD
    have hcr := cright_any s hs w1
    rw [HBB.out] at hcr
    go_wp2_with (first
      | (guard_target =~ wpList _ _ _ (_ :: _) _ _; refine wpList_load rfl 27 (.tmp 1) rfl (.pointer (some ⟨q, 0, none⟩)) rfl hld ?_)
      | (guard_target =~ wpList _ _ _ (_ :: _) _ _; refine wpList_build rfl 183 _ rfl #[(0, .agg (termsC s))] (by simp only [List.map_toArray, List.map_cons, List.map_nil]; rfl) (buildCTerms hs _) ?_)
      | (go_at_call 139; refine hcr.mono ?_; clear hcr; rintro e w2 ⟨rfl, hL⟩)
      | fail)
    go_ret
    exact ⟨rfl, HB.out.trans (hL.below.mono HB.out.size)⟩
/-- A hash with another first byte. -/
def bump : List UInt8 → List UInt8
  | [] => []
  | x :: r => (x + 1) :: r
theorem bump_len (h : List UInt8) : (bump h).length = h.length := by cases h <;> rfl
theorem bump_ne (h : List UInt8) (hn : h ≠ []) : bump h ≠ h := by
  cases h with
  | nil => exact absurd rfl hn
  | cons x r =>
    intro e
    injection e with e _
    have h1 := congrArg UInt8.toNat e
    rw [UInt8.toNat_add] at h1
    have h2 := x.toNat_lt
    have h3 : (1 : UInt8).toNat = 1 := rfl
    omega
theorem termsC_put {s s' : Said} (h : s.wf) (h' : s'.wf) (vs : List Value) (o : Nat) (ho : o + vs.length ≤ 101) (e : setFrom (saidC s) (1 + o) vs = saidC s') : setFrom (termsC s) o vs = termsC s' := by
  apply Array.ext_getElem?
  intro i
  rw [setFrom_get _ _ _ _ (by rw [termsC_size h]; exact ho)]
  by_cases hi : i < 101
  · rw [termsC_get h' i hi, ← e, setFrom_get _ _ _ _ (by rw [saidC_size h]; omega), termsC_get h i hi]
    by_cases hc : o ≤ i ∧ i < o + vs.length
    · rw [if_pos hc, if_pos (by omega), show 1 + i - (1 + o) = i - o by omega]
    · rw [if_neg hc, if_neg (by omega)]
  · rw [if_neg (by omega), Array.getElem?_eq_none (by rw [termsC_size h]; omega), Array.getElem?_eq_none (by rw [termsC_size h']; omega)]
theorem said_key1 {s : Said} (h : s.wf) (x : UInt8) (r : List UInt8) (y : UInt8) (he : s.key1 = x :: r) : setFrom (saidC s) 70 [byteV y] = saidC (s.setH 2 (y :: r)) := by
  have hl := h 2 (by decide)
  have hl' : (x :: r).length = 32 := he ▸ hl
  have h1 := saidC_setH h 2 (by decide) (y :: r) (by simpa using hl')
  rw [← h1]
  apply Array.ext_getElem?
  intro i
  have hz := hC_size (y :: r) (by simp at hl' ⊢; omega)
  have hzl : (hC (y :: r)).toList.length = 32 := by rw [Array.length_toList, hz]
  have h1l : [byteV y].length = 1 := rfl
  rw [setFrom_get _ _ _ _ (by rw [saidC_size h, h1l]; decide), setFrom_get _ _ _ _ (by rw [saidC_size h, hzl]; decide), hzl, h1l]
  by_cases h0 : i = 70
  · subst h0
    rfl
  · rw [if_neg (by omega)]
    by_cases hc : offH 2 ≤ i ∧ i < offH 2 + 32
    · rw [if_pos hc]
      have h2 := saidC_h h 2 (by decide) (i - 70) (by have := hc.2; have : offH 2 = 70 := rfl; omega)
      have e70 : offH 2 = 70 := rfl
      rw [e70] at hc h2 ⊢
      rw [show 70 + (i - 70) = i by omega] at h2
      rw [h2, show s.h 2 = x :: r from he, Array.getElem?_toList, hC_full _ hl', hC_full _ (by simpa using hl')]
      obtain ⟨k, hk⟩ : ∃ k, i - 70 = k + 1 := ⟨i - 71, by omega⟩
      rw [hk]
      rfl
    · rw [if_neg hc]
theorem allocTerms (w : World) : (Instr.alloc 27 true (.tuple #[])).run Tryz.prog w = .ok (.pointer (some ⟨w.heap.size, 0, none⟩)) (w.alloc (.cells (termsC (Ms.blank 0)) 27)) := by kernel_rfl
theorem newTerms (w : World) {s : Said} (hs : s.wf) : ∃ w', (Instr.storeAt 27 (.pointer (some ⟨w.heap.size, 0, none⟩)) (.agg (termsC s))).run Tryz.prog (w.alloc (.cells (termsC (Ms.blank 0)) 27)) = .ok () w' ∧ Row w' w.heap.size 27 (termsC s) ∧ Later w w' := by
  have hz := termsC_size hs
  have hr := Row.new w 27 (termsC (Ms.blank 0))
  have hg := grown_setCells (g := w.heap.size) (termsC s).toList 0 (w.alloc (.cells (termsC (Ms.blank 0)) 27))
  refine ⟨_, run_store_row hr (termsC s) (by rw [hz]; exact infoTerms) (by rw [hz, termsC_size (blank_wf 0)]; decide) (termsC_one s), ?_, Below.grown ((Later.refl w).alloc _) hg (by simp only [World.size_alloc]; omega) (fun j e => by cases e; exact Nat.le_refl _)⟩
  have hr2 := row_setCells (termsC s).toList 0 _ _ hr
  rwa [setFrom_whole _ _ (by rw [Array.length_toList, hz, termsC_size (blank_wf 0)]), Array.toArray_toList] at hr2
theorem loadSaidT {w : World} {g : Nat} {s : Said} (h : s.wf) (hr : Row w g 29 (saidC s)) : (Instr.loadAt 27 (.pointer (some ⟨g, 1, none⟩))).run Tryz.prog w = .ok (.agg (termsC s)) w :=
  run_load_part hr (fun i hi => (termsC_get h i (by rw [termsC_size h] at hi; exact hi)).symm) Tryz.underlying27 rfl (by rw [termsC_size h]; exact infoTerms)
end Go.Proofs.YtcajhdmppfiaeaaGreat
