/- Walks: Sum over parts, Twice, and the law's small helps. -/
import Derived.Test.YtfconncnccgenaaShaT6
set_option linter.unusedVariables false
set_option linter.unusedSimpArgs false
namespace Go.Proofs.Ytfconncnccgenaa
open Go.RowKit
/-- A slice of slices, each with room that a machine has. -/
def RdsC (w : World) (A : Option Addr) (ls : List (List UInt8)) : Prop :=
  ls ≠ [] → ∃ b o, A = some ⟨b, o, none⟩ ∧ ∀ i (h : i < ls.length), ∃ Ai ci, w.cell? ⟨b, o + i, none⟩ = some (.slice Ai ls[i].length ci) ∧ ls[i].length ≤ ci ∧ ci ≤ 9223372036854775807 ∧ Rd w Ai ls[i]
theorem RdsC.nil (w : World) (A : Option Addr) : RdsC w A [] := fun h => absurd rfl h
theorem RdsC.below {w w' : World} {A : Option Addr} {ls : List (List UInt8)} (h : RdsC w A ls) (hb : Below w.heap.size w w') : RdsC w' A ls := fun hl => by
  obtain ⟨b, o, e, hc⟩ := h hl
  refine ⟨b, o, e, fun i hi => ?_⟩
  obtain ⟨Ai, ci, h1, h2, h3, h4⟩ := hc i hi
  exact ⟨Ai, ci, (hb.cell (p := ⟨b, o + i, none⟩) (block_lt_of_cell h1)).trans h1, h2, h3, h4.below hb⟩
theorem RdsC.at_ {w : World} {A : Option Addr} {ls : List (List UInt8)} (h : RdsC w A ls) {k : Nat} (hk : k < ls.length) : ∃ b o Ai ci, A = some ⟨b, o, none⟩ ∧ w.cell? ⟨b, o + k, none⟩ = some (.slice Ai ls[k].length ci) ∧ ls[k].length ≤ ci ∧ ci ≤ 9223372036854775807 ∧ Rd w Ai ls[k] := by
  obtain ⟨b, o, e, hc⟩ := h (by intro e; subst e; simp at hk)
  obtain ⟨Ai, ci, h1⟩ := hc k hk
  exact ⟨b, o, Ai, ci, e, h1⟩
theorem RdsC.one {w : World} {A : Option Addr} {n c g : Nat} {l : List UInt8} (t : TypeId) (hg : w.heap.size = g) (h : Rd w A l) (hn : l.length = n) (hc : n ≤ c) (hm : c ≤ 9223372036854775807) : RdsC (w.alloc (.cells #[.slice A n c] t)) (some ⟨g, 0, none⟩) [l] := fun _ =>
  ⟨_, _, rfl, fun i hi => by
    have e : i = 0 := by simpa using hi
    subst e
    subst hn
    subst hg
    exact ⟨A, c, ((Row.new w t _).cell 0).trans rfl, hc, hm, h.alloc _⟩⟩
theorem take_flat (ls : List (List UInt8)) (k : Nat) : (ls.take k).flatten.length ≤ ls.flatten.length := by
  have := congrArg (fun x => (List.flatten x).length) (List.take_append_drop k ls)
  simp only [List.flatten_append, List.length_append] at this
  omega
set_option maxRecDepth 100000 in
set_option maxHeartbeats 4000000 in
theorem shaSum_any (A : Option Addr) (n cap : Nat) (ls : List (List UInt8)) (w : World) (hn : ls.length = n) (hm : n ≤ 1000000000) (hmax : ls.flatten.length ≤ 1000000000) (hr : RdsC w A ls) :
    Calls Try.prog 10 #[.slice A n cap] w fun e w' => e = .returned (.agg (hC (Sha.sum ls.flatten))) ∧ Below w.heap.size w w' := by
  subst hn
  have hrowA := Row.new w 26 (hC [])
  have hbA := below_new w (.cells (hC []) 26)
  have HMAX := Lib.hid hmax
  have HR := Lib.hid hr
  clear hmax hr
  go_enter Try.func10, Try.ntmps10
  go_wp2_with (first
    | (with_reducible refine wpList_alloc rfl 26 rfl (allocH _) ?_)
    | (go_at_call 24; refine (new_any _).mono ?_; rintro e w1 ⟨g, rfl, hrun1, hg1, hb1⟩))
  have hb1' : Below w.heap.size w w1 := hbA.trans (hb1.mono hbA.size)
  have hgw : w.heap.size < g := by
    have : (w.alloc (.cells (hC []) 26)).heap.size = w.heap.size + 1 := World.size_alloc _ _
    omega
  have hrow1 : Row w1 w.heap.size 26 (hC []) := hrowA.belowAll hb1
  clear hb1 hbA hrowA hg1
  go_loopw [5, 9] (fun _ t wr => ∃ k : Nat, k ≤ ls.length ∧ t = .int .i64 k ∧ IsRun wr g (ls.take k).flatten ∧ Row wr w.heap.size 26 (hC []) ∧ Below w.heap.size w wr) (fun _ t _ => ls.length - (intOf t).toNat)
  case atStart => exact ⟨0, by omega, rfl, hrun1, hrow1, hb1'⟩
  case round =>
    obtain ⟨k, hk, rfl, hrun, hrow, hb⟩ := hrel
    clear hrun1 hrow1 hb1'
    have hsz0 := hb.size
    by_cases hlt : k < ls.length
    · obtain ⟨b, o, Ai, ci, rfl, hc1, hci, hcm, hrd1⟩ := HR.out.at_ hlt
      have hc : wr.cell? ⟨b, o + k, none⟩ = some (.slice Ai ls[k].length ci) := (hb.cell (p := ⟨b, o + k, none⟩) (block_lt_of_cell hc1)).trans hc1
      have hrd := hrd1.below hb
      have hlt1 : ∀ ad, Ai = some ad → ls[k] ≠ [] → ad.block ≠ g := fun ad e hl => by
        obtain ⟨b', o', e', _⟩ := hrd1 hl
        rw [e] at e'
        injection e' with e'
        have := hrd1.lt (e.trans (congrArg some e')) hl
        rw [e']
        exact Nat.ne_of_lt (Nat.lt_trans this hgw)
      have hnext : (ls.take (k + 1)).flatten = (ls.take k).flatten ++ ls[k] := by
        rw [List.take_succ_eq_append_getElem hlt, List.flatten_append]; simp
      have hpl : (ls.take k).flatten.length + ls[k].length ≤ 1099511627776 := by
        have := take_flat ls (k + 1)
        have h2 := HMAX.out
        rw [hnext, List.length_append] at this
        omega
      have HN := Lib.hid hnext
      have HL := Lib.hid hlt1
      clear hnext hlt1 hc1 hrd1
      generalize (ls.take k).flatten = z at *
      generalize ls[k] = l at *
      go_wp2_with (first | (go_at_call 26; refine (write_any g z Ai _ ci l _ hrun rfl hci hcm hrd HL.out hpl).mono ?_; rintro e w2 ⟨rfl, hrun2, hg2⟩))
      have hrow2 := hrow.grown hg2 (by intro e; injection e with e; omega)
      have hb2 := hb.grown hg2 hb.size (fun j e => by cases e; omega)
      go_roundw
      case rel => exact ⟨k + 1, by omega, by go_num, by rw [HN.out]; exact hrun2, hrow2, hb2⟩
      case measure => simp [intOf]; omega
    · obtain rfl : k = ls.length := by omega
      rw [List.take_length] at hrun
      have hL := HMAX.out
      have hslen : (Sha.sum ls.flatten).length = 32 := Sha.sum_len _
      obtain ⟨z, hz⟩ : ∃ z, ls.flatten = z := ⟨_, rfl⟩
      rw [hz] at hrun hL hslen
      have HZ := Lib.hid hz
      clear hz
      go_wp2_with (first
        | (go_at_call 29; refine (runSum_any g z _ hrun hL).mono ?_; rintro e w2 ⟨rfl, hb2⟩; have hrow2 := hrow.belowAll hb2; obtain ⟨w9, hst, hr9, hg9⟩ := storeH (a := []) (b := Sha.sum z) (by simp) (by omega) hrow2)
        | (refine wpList_store rfl 26 (.tmp 2) (.tmp 18) rfl (.pointer (some ⟨w.heap.size, 0, none⟩)) (.agg (hC (Sha.sum z))) rfl rfl hst ?_))
      have hb2' : Below w.heap.size w w2 := hb.trans (hb2.mono hb.size)
      refine bodyPost_ret (results_cell_row rfl _ _ w.heap.size 26 (hC (Sha.sum z)) (0, 0) _ rfl hr9 Try.underlying26 rfl (by rw [hC_size _ (by omega)]; exact infoH)) rfl ⟨by rw [HZ.out], hb2'.grown hg9 hb2'.size (fun j e => by cases e; exact Nat.le_refl _)⟩
theorem boxHat (h : List UInt8) (hl : h.length = 32) (w : World) : (Instr.box 26 (.agg (hC h))).run Try.prog w = .ok (.pointer (some ⟨w.heap.size, 0, none⟩)) (w.alloc (.cells (hC h) 26)) := boxH h hl w
theorem rd_hash {w : World} {g : Nat} {h : List UInt8} {t : TypeId} (hl : h.length = 32) (hr : Row w g t (hC h)) : Rd w (some ⟨g, 0, none⟩) h := fun _ =>
  ⟨_, _, rfl, fun i hi => by
    rw [hr.cell, Nat.zero_add]
    exact hC_get h i hi (by omega)⟩
theorem num_any (n : Int) (w : World) : Calls Try.prog 17 #[.int .i64 n] w fun e w' => e = .returned (.int .i64 n) ∧ w = w' := by
  go_enter Try.func17, Try.ntmps17
  go_wp2
  go_ret
  exact ⟨rfl, rfl⟩
end Go.Proofs.Ytfconncnccgenaa
