/- Walks, secrets: All. -/
import Derived.Test.YthabgfghogdkcaaDoorSd3
set_option linter.unusedVariables false
set_option linter.unusedSimpArgs false
namespace Go.Proofs.YthabgfghogdkcaaDoor
open Go.RowKit
attribute [local go_sem] Oper.semAt_some
theorem allocKeep0 (w : World) : (Instr.alloc 60 true (.tuple #[])).run Tryd.prog w = .ok (.pointer (some ⟨w.heap.size, 0, none⟩)) (w.alloc (.cells (kC 0 (fun _ => 0) (fun _ => []) false) 60)) := by kernel_rfl
theorem storeKeep {w : World} {g : Nat} {cs : Array Value} {n : Int} {ix : Nat → Nat} {sc : Nat → List UInt8} {made : Bool} (hz : cs.size = 1058) (hs : ∀ p, (sc p).length ≤ 32) (hr : Row w g 60 cs) :
    ∃ w', (Instr.storeAt 60 (.pointer (some ⟨g, 0, none⟩)) (.agg (kC n ix sc made))).run Tryd.prog w = .ok () w' ∧ Row w' g 60 (kC n ix sc made) ∧ w.grownBy w' (some g) := by
  have hk := kC_size n ix sc made
  refine ⟨_, run_store_row hr (kC n ix sc made) (by rw [hk]; exact infoK) (by rw [hz, hk]; decide) (kC_one n ix sc made (fun p _ => hs p)), ?_, grown_setCells _ _ _⟩
  have h := row_setCells (kC n ix sc made).toList 0 w _ hr
  have e : setFrom cs 0 (kC n ix sc made).toList = kC n ix sc made := by
    apply Array.ext_getElem?
    intro j
    rw [setFrom_get _ _ _ _ (by rw [Array.length_toList, hz, hk]; decide), Array.length_toList, hk]
    by_cases hj : j < 1058
    · rw [if_pos ⟨Nat.zero_le _, by omega⟩, Array.getElem?_toList, Nat.sub_zero]
    · rw [if_neg (by omega), Array.getElem?_eq_none (by rw [hz]; omega), Array.getElem?_eq_none (by rw [hk]; omega)]
  rw [e] at h
  exact h
set_option maxRecDepth 100000 in
set_option maxHeartbeats 2000000 in
theorem kall_any (g : Nat) (n : Int) (ix : Nat → Nat) (sc : Nat → List UInt8) (w : World) (hs : ∀ p, (sc p).length = 32) (hr : Row w g 60 (kC n ix sc true)) :
    Calls Tryd.prog 20 #[.pointer (some ⟨g, 0, none⟩)] w fun e w' => e = .returned (.func (.func 49) #[] #[.pointer (some ⟨w.heap.size, 0, none⟩)]) ∧ Row w' w.heap.size 60 (kC n ix sc true) ∧ Later w w' := by
  have hmf : ∀ (fn : Fn) (first cap : Array Value) (w : World), (Instr.makeFunc fn first cap).run Tryd.prog w = .ok (.func fn first cap) w := fun _ _ _ _ => rfl
  have hno := knone_no g n ix sc w hr
  have hld := loadKeep hr
  obtain ⟨w1, hst, hr1, hg1⟩ := storeKeep (n := n) (ix := ix) (sc := sc) (made := true) (kC_size 0 (fun _ => 0) (fun _ => []) false) (fun p => Nat.le_of_eq (hs p)) (Row.new w 60 (kC 0 (fun _ => 0) (fun _ => []) false))
  have hL : Later w w1 := Below.grown ((Later.refl w).alloc _) hg1 (by simp only [World.size_alloc]; omega) (fun j e => by cases e; exact Nat.le_refl _)
  have hal := allocKeep0 w
  generalize kC n ix sc true = cs at *
  generalize kC 0 (fun _ => 0) (fun _ => []) false = c0 at *
  have HN := Lib.hid hno
  have HST := Lib.hid hst
  have HAL := Lib.hid hal
  have HLD := Lib.hid hld
  clear hno hst hal hld
  go_enter Tryd.func20, Tryd.ntmps20
  go_wp2_with (first
    | (go_at_call 27; refine HN.out.mono ?_; rintro e w2 ⟨rfl, rfl⟩)
    | (guard_target =~ wpList _ _ _ (_ :: _) _ _; first
      | (refine wpList_load rfl 60 (.tmp 7) rfl (.pointer (some ⟨g, 0, none⟩)) rfl HLD.out ?_)
      | (refine wpList_alloc rfl 60 rfl HAL.out ?_)
      | (refine wpList_store rfl 60 (.tmp 3) (.tmp 8) rfl (.pointer (some ⟨_, 0, none⟩)) (.agg cs) rfl rfl HST.out ?_))
    | fail)
  go_ret
  exact ⟨rfl, hr1, hL⟩
end Go.Proofs.YthabgfghogdkcaaDoor
