/- Walks: a step, the table. -/
import Derived.Test.YtkgpagkhheglgaaRows
import Derived.Test.YtkgpagkhheglgaaCrcMath
import Derived.Test.YtkgpagkhheglgaaWords
import Derived.WalkKit
import Derived.WalkSpells
import Derived.WalkLawsBesides
import Derived.BigRegion
import Derived.BigQuiet
import Derived.Lib.Hide
namespace Go.Proofs.Ytkgpagkhheglgaa
open Go.RowKit
def z57 : Array Value := Array.replicate 257 (.int .u32 0)
def z33 : Array Value := Array.replicate 256 (.int .u32 0)
def tabCells : Array Value := (Array.range 256).map fun i => .int .u32 ((Crc.tab i).toNat : Int)
def tabTo (k : Nat) : Array Value := (Array.range 256).map fun i => .int .u32 (if i < k then ((Crc.tab i).toNat : Int) else 0)
def oneTo (x : BitVec 32) : Array Value := z57.setIfInBounds 0 (.int .u32 (x.toNat : Int))
theorem info57 : (Try.prog.info? 57).map (·.size) = some 257 := by kernel_rfl
theorem info33 : (Try.prog.info? 33).map (·.size) = some 256 := by kernel_rfl
theorem alloc57 (w : World) : (Instr.alloc 57 true (.tuple #[])).run Try.prog w = .ok (.pointer (some ⟨w.heap.size, 0, none⟩)) (w.alloc (.cells z57 57)) := by kernel_rfl
theorem alloc33 (w : World) : (Instr.alloc 33 true (.tuple #[])).run Try.prog w = .ok (.pointer (some ⟨w.heap.size, 0, none⟩)) (w.alloc (.cells z33 33)) := by kernel_rfl
theorem build57a (w : World) (x : Int) : (Instr.build 57 #[(0, .agg #[.int .u32 x])]).run Try.prog w = .ok (.agg (z57.setIfInBounds 0 (.int .u32 x))) w := by kernel_rfl
theorem one57 (x : BitVec 32) : (oneTo x).all (·.oneCell') = true := by kernel_rfl
theorem size57 (x : BitVec 32) : (oneTo x).size = 257 := by simp [oneTo, z57]
set_option maxHeartbeats 400000 in
theorem step_any (b o : Nat) (x : BitVec 32) (w : World)
   (hc : w.cell? ⟨b, o, none⟩ = some (.int .u32 (x.toNat : Int))) (hf : w.frozen? ⟨b, o, none⟩ = false) :
    Calls Try.prog 30 #[.pointer (some ⟨b,o,none⟩)] w fun e w' => e = .returned (.tuple #[]) ∧ (w.setCell ⟨b,o,none⟩ (.int .u32 ((Crc.step x).toNat : Int))).drew = w' := by
  have h1 := x.isLt
  go_enter Try.func30, Try.ntmps30
  go_wp2
  go_region
  go_end0
  exact ⟨rfl, by rw [Crc.step_val]⟩
theorem oneTo_get (x : BitVec 32) : (oneTo x)[0]? = some (.int .u32 (x.toNat : Int)) := by simp [oneTo, z57]
theorem oneTo_set (x y : BitVec 32) : (oneTo x).setIfInBounds 0 (.int .u32 (y.toNat : Int)) = oneTo y := by simp [oneTo]
theorem build57x (i : Nat) (x : BitVec 32) (h : (i : Int) = (x.toNat : Int)) (w : World) : (Instr.build 57 #[(0, .agg #[.int .u32 (i : Int)])]).run Try.prog w = .ok (.agg (oneTo x)) w := by
  rw [h]; exact build57a w _
theorem store57x (x : BitVec 32) (w : World) : (Instr.storeAt 57 (.pointer (some ⟨w.heap.size, 0, none⟩)) (.agg (oneTo x))).run Try.prog (w.alloc (.cells z57 57)) = .ok () (w.alloc (.cells (oneTo x) 57)) :=
  run_storeAt_new w 57 z57 (oneTo x) (by rw [size57]; exact info57) (by rw [size57]; simp [z57]) (one57 x)
set_option maxRecDepth 100000 in
set_option maxHeartbeats 400000 in
theorem table1_any (i : Nat) (w : World) (hi : i < 256) :
    Calls Try.prog 29 #[.int .i64 (i : Int)] w fun e w' => e = .returned (.int .u32 ((Crc.tab i).toNat : Int)) ∧ Below w.heap.size w w' := by
  obtain ⟨x, hx⟩ : ∃ x : BitVec 32, x = BitVec.ofNat 32 i := ⟨_, rfl⟩
  have hxi : (i : Int) = (x.toNat : Int) := by rw [hx, BitVec.toNat_ofNat]; omega
  have hy : Crc.tab i = Crc.steps 8 x := by rw [hx]; rfl
  have HX := Lib.hid hxi
  have HY := Lib.hid hy
  have hlt := x.isLt
  clear hxi hy hx
  go_enter Try.func29, Try.ntmps29
  go_wp2_with (first
    | (with_reducible refine wpList_alloc rfl 57 rfl (alloc57 _) ?_)
    | (refine wpList_build1 rfl 57 0 (.tmp 6) rfl (.agg #[.int .u32 (i : Int)]) rfl (build57x i x HX.out _) ?_)
    | (refine wpList_store rfl 57 (.tmp 3) (.tmp 7) rfl (.pointer (some ⟨w.heap.size, 0, none⟩)) (.agg (oneTo x)) rfl rfl (store57x x _) ?_))
  go_loopw [8] (fun t wr => ∃ k : Nat, k ≤ 8 ∧ t = .int .i64 k ∧ Row wr w.heap.size 57 (oneTo (Crc.steps k x)) ∧ Below w.heap.size w wr) (fun t _ => 8 - (intOf t).toNat)
  case atStart => exact ⟨0, by omega, rfl, Row.new w 57 _, (Below.refl _ _).alloc (Nat.le_refl _) _⟩
  case round =>
    obtain ⟨k, hk, rfl, hrow, hb⟩ := hrel
    by_cases hlt8 : k < 8
    · go_wp2_with (first | (go_at_call 30; refine (step_any _ _ (Crc.steps k x) _ ((hrow.cell 0).trans (oneTo_get _)) (hrow.frozen 0)).mono ?_; rintro e w' ⟨rfl, rfl⟩))
      go_roundw
      case rel => exact ⟨k + 1, by omega, by go_num, by rw [Crc.steps, ← oneTo_set]; exact (hrow.set 0 _), (hb.setCell (p := ⟨w.heap.size, 0, none⟩) (Nat.le_refl _) _).drew⟩
      case measure => simp [intOf]; omega
    · obtain rfl : k = 8 := by omega
      have hc := (hrow.cell 0).trans (oneTo_get _)
      go_wp2
      go_ret
      exact ⟨by rw [HY.out]; rfl, hb⟩
theorem tabTo_size (k : Nat) : (tabTo k).size = 256 := by simp [tabTo]
theorem tabTo_get (k i : Nat) : (tabTo k)[i]? = if i < 256 then some (.int .u32 (if i < k then ((Crc.tab i).toNat : Int) else 0)) else none := by
  unfold tabTo
  rw [Array.getElem?_map, Array.getElem?_range]
  by_cases h : i < 256
  · rw [if_pos h, if_pos h]; rfl
  · rw [if_neg h, if_neg h]; rfl
theorem tabCells_get (i : Nat) : tabCells[i]? = if i < 256 then some (.int .u32 ((Crc.tab i).toNat : Int)) else none := by
  unfold tabCells
  rw [Array.getElem?_map, Array.getElem?_range]
  by_cases h : i < 256
  · rw [if_pos h, if_pos h]; rfl
  · rw [if_neg h, if_neg h]; rfl
theorem tabTo_zero : tabTo 0 = z33 := by
  apply Array.ext_getElem?
  intro i
  rw [tabTo_get]
  unfold z33
  rw [Array.getElem?_replicate]
  by_cases h : i < 256
  · rw [if_pos h, if_pos h, if_neg (by omega)]
  · rw [if_neg h, if_neg h]
theorem tabTo_all : tabTo 256 = tabCells := by
  apply Array.ext_getElem?
  intro i
  rw [tabTo_get, tabCells_get]
  by_cases h : i < 256
  · rw [if_pos h, if_pos h, if_pos h]
  · rw [if_neg h, if_neg h]
theorem tabTo_set (k : Nat) (h : k < 256) : (tabTo k).setIfInBounds k (.int .u32 ((Crc.tab k).toNat : Int)) = tabTo (k + 1) := by
  apply Array.ext_getElem?
  intro i
  rw [Array.getElem?_setIfInBounds, tabTo_get, tabTo_get, tabTo_size]
  by_cases e : k = i
  · subst e; rw [if_pos rfl, if_pos h, if_pos h, if_pos (by omega)]
  · rw [if_neg e]
    by_cases h4 : i < 256
    · rw [if_pos h4, if_pos h4]
      by_cases h3 : i < k
      · rw [if_pos h3, if_pos (by omega)]
      · rw [if_neg h3, if_neg (by omega)]
    · rw [if_neg h4, if_neg h4]
theorem tab_one : tabCells.all (·.oneCell') = true := by
  rw [Array.all_eq_true_iff_forall_mem]
  intro v hv
  obtain ⟨i, hi, rfl⟩ := Array.mem_map.1 hv
  rfl
theorem tab_size : tabCells.size = 256 := by simp [tabCells]
set_option maxRecDepth 100000 in
set_option maxHeartbeats 400000 in
theorem table_any (w : World) :
    Calls Try.prog 16 #[] w fun e w' => e = .returned (.agg tabCells) ∧ Below w.heap.size w w' := by
  have hz : Hid (tabTo 0 = z33) := tabTo_zero
  go_enter Try.func16, Try.ntmps16
  go_wp2_with (first
    | (with_reducible refine wpList_alloc rfl 33 rfl (alloc33 _) ?_))
  go_loopw [3] (fun t wr => ∃ k : Nat, k ≤ 256 ∧ t = .int .i64 k ∧ Row wr w.heap.size 33 (tabTo k) ∧ Below w.heap.size w wr) (fun t _ => 256 - (intOf t).toNat)
  case atStart => exact ⟨0, by omega, rfl, by rw [hz.out]; exact Row.new w 33 _, (Below.refl _ _).alloc (Nat.le_refl _) _⟩
  case round =>
    obtain ⟨k, hk, rfl, hrow, hb⟩ := hrel
    by_cases hlt8 : k < 256
    · have hbl : w.heap.size < wr.heap.size := hrow.lt
      go_wp2_with (first | (go_at_call 29; refine (table1_any k _ hlt8).mono ?_; rintro e w1 ⟨rfl, hb1⟩; have hrow1 := hrow.belowAll hb1; have hc : w1.cell? ⟨w.heap.size, k, none⟩ = some ((tabTo k)[k]'(by rw [tabTo_size]; exact hlt8)) := (hrow1.cell k).trans (Array.getElem?_eq_getElem _); have hf := hrow1.frozen k))
      go_roundw
      case rel => exact ⟨k + 1, by omega, by go_num, by rw [← tabTo_set k hlt8]; exact (hrow1.set k _), ((hb.trans (hb1.mono (by omega))).setCell (p := ⟨w.heap.size, k, none⟩) (Nat.le_refl _) _)⟩
      case measure => simp [intOf]; omega
    · obtain rfl : k = 256 := by omega
      have hr : Row wr w.heap.size 33 tabCells := by rw [← tabTo_all]; exact hrow
      go_wp2_with (first
        | (refine wpList_load_row rfl 33 (.tmp 0) rfl w.heap.size rfl 33 tabCells (0, 0) _ hr Try.underlying33 rfl (by rw [tab_size]; exact info33) ?_)
        | (refine wpList_store rfl 33 (.tmp 0) (.tmp 12) rfl (.pointer (some ⟨w.heap.size, 0, none⟩)) (.agg tabCells) rfl rfl (run_store_row hr tabCells (by rw [tab_size]; exact info33) (by simp) tab_one) ?_))
      have hr2 := row_setCells tabCells.toList 0 wr tabCells hr
      rw [setFrom_whole _ _ (by simp), Array.toArray_toList] at hr2
      refine bodyPost_ret (results_cell_row rfl _ _ w.heap.size 33 tabCells (0, 0) _ rfl hr2 Try.underlying33 rfl (by rw [tab_size]; exact info33)) rfl ⟨rfl, hb.trans (below_of_grown (grown_setCells _ _ _) (Nat.le_refl _) hb.size)⟩
end Go.Proofs.Ytkgpagkhheglgaa
