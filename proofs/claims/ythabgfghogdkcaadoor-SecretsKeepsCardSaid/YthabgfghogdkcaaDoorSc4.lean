/- Walks, secrets: what a keep holds in memory. -/
import Derived.Test.YthabgfghogdkcaaDoorSc3c
set_option linter.unusedVariables false
set_option linter.unusedSimpArgs false
namespace Go.Proofs.YthabgfghogdkcaaDoor
open Go.RowKit
/-- A keep's cells: how many, 32 places of an index and a hash, whether it was made. -/
def kCell (n : Int) (ix : Nat → Nat) (sc : Nat → List UInt8) (made : Bool) (i : Nat) : Value :=
  if i = 0 then .int .i64 n else if i = 1057 then .bool made else if (i - 1) % 33 = 0 then .int .i64 (ix ((i - 1) / 33) : Int) else (hC (sc ((i - 1) / 33))).getD ((i - 1) % 33 - 1) undef
def kC (n : Int) (ix : Nat → Nat) (sc : Nat → List UInt8) (made : Bool) : Array Value := ((List.range 1058).map (kCell n ix sc made)).toArray
theorem kC_size (n : Int) (ix : Nat → Nat) (sc : Nat → List UInt8) (made : Bool) : (kC n ix sc made).size = 1058 := by simp [kC]
theorem kC_get (n : Int) (ix : Nat → Nat) (sc : Nat → List UInt8) (made : Bool) (i : Nat) (h : i < 1058) : (kC n ix sc made)[i]? = some (kCell n ix sc made i) := by
  unfold kC
  rw [List.getElem?_toArray, List.getElem?_map, List.getElem?_range h]; rfl
theorem kC_n (n : Int) (ix : Nat → Nat) (sc : Nat → List UInt8) (made : Bool) : (kC n ix sc made)[0]? = some (.int .i64 n) := kC_get _ _ _ _ 0 (by decide)
theorem kC_made (n : Int) (ix : Nat → Nat) (sc : Nat → List UInt8) (made : Bool) : (kC n ix sc made)[1057]? = some (.bool made) := kC_get _ _ _ _ 1057 (by decide)
/-- One place's cells. -/
def ptC (ix : Nat) (sc : List UInt8) : Array Value := #[.int .i64 (ix : Int)] ++ hC sc
theorem ptC_size (ix : Nat) (sc : List UInt8) (h : sc.length ≤ 32) : (ptC ix sc).size = 33 := by
  unfold ptC
  rw [Array.size_append, hC_size _ h]; rfl
theorem kC_place (n : Int) (ix : Nat → Nat) (sc : Nat → List UInt8) (made : Bool) (p : Nat) (hp : p < 32) (hs : (sc p).length ≤ 32) (j : Nat) (hj : j < 33) : (kC n ix sc made)[1 + 33 * p + j]? = (ptC (ix p) (sc p))[j]? := by
  rw [kC_get _ _ _ _ _ (by omega)]
  unfold kCell
  rw [if_neg (by omega), if_neg (by omega), show (1 + 33 * p + j - 1) % 33 = j from by omega, show (1 + 33 * p + j - 1) / 33 = p from by omega]
  unfold ptC
  rcases j with _ | j
  · rw [if_pos rfl, Array.getElem?_append_left (by simp)]; rfl
  · rw [if_neg (by omega), Array.getElem?_append_right (by simp), show j + 1 - (#[Value.int .i64 (ix p : Int)] : Array Value).size = j from by simp, show j + 1 - 1 = j from by omega]
    rw [Array.getElem?_eq_getElem (by rw [hC_size _ hs]; omega), Array.getD, dif_pos (by rw [hC_size _ hs]; omega)]
    rfl
/-- f but at one place. -/
def updF {α : Type} (f : Nat → α) (p : Nat) (x : α) (q : Nat) : α := if q = p then x else f q
theorem kC_put (n : Int) (ix : Nat → Nat) (sc : Nat → List UInt8) (made : Bool) (p : Nat) (hp : p < 32) (i : Nat) (s : List UInt8) (hs : s.length ≤ 32) : setFrom (kC n ix sc made) (1 + 33 * p) (ptC i s).toList = kC n (updF ix p i) (updF sc p s) made := by
  have hsz := ptC_size i s hs
  apply Array.ext_getElem?
  intro j
  rw [setFrom_get _ _ _ _ (by rw [Array.length_toList, hsz, kC_size]; omega), Array.length_toList, hsz]
  by_cases hj : 1 + 33 * p ≤ j ∧ j < 1 + 33 * p + 33
  · rw [if_pos hj, Array.getElem?_toList]
    have := kC_place n (updF ix p i) (updF sc p s) made p hp (by unfold updF; rw [if_pos rfl]; exact hs) (j - (1 + 33 * p)) (by omega)
    rw [show 1 + 33 * p + (j - (1 + 33 * p)) = j from by omega] at this
    rw [this]
    unfold updF
    rw [if_pos rfl, if_pos rfl]
  · rw [if_neg hj]
    by_cases hlt : j < 1058
    · rw [kC_get _ _ _ _ _ hlt, kC_get _ _ _ _ _ hlt]
      unfold kCell
      by_cases h0 : j = 0
      · rw [if_pos h0, if_pos h0]
      · rw [if_neg h0, if_neg h0]
        by_cases h1 : j = 1057
        · rw [if_pos h1, if_pos h1]
        · rw [if_neg h1, if_neg h1]
          have hq : (j - 1) / 33 ≠ p := by omega
          unfold updF
          rw [if_neg hq, if_neg hq]
    · rw [Array.getElem?_eq_none (by rw [kC_size]; omega), Array.getElem?_eq_none (by rw [kC_size]; omega)]
theorem kC_setn (n m : Int) (ix : Nat → Nat) (sc : Nat → List UInt8) (made : Bool) : (kC n ix sc made).setIfInBounds 0 (.int .i64 m) = kC m ix sc made := by
  apply Array.ext_getElem?
  intro j
  rw [Array.getElem?_setIfInBounds]
  by_cases hlt : j < 1058
  · rw [kC_get _ _ _ _ _ hlt, kC_get _ _ _ _ _ hlt]
    rcases j with _ | j
    · rw [if_pos rfl, if_pos (by rw [kC_size]; decide)]; rfl
    · rw [if_neg (show ¬ 0 = j + 1 by omega)]
      unfold kCell
      rw [if_neg (show ¬ j + 1 = 0 by omega), if_neg (show ¬ j + 1 = 0 by omega)]
  · rw [if_neg (by omega), Array.getElem?_eq_none (by rw [kC_size]; omega), Array.getElem?_eq_none (by rw [kC_size]; omega)]
theorem infoK : (Tryd.prog.info? 60).map (·.size) = some 1058 := by kernel_rfl
theorem infoP : (Tryd.prog.info? 57).map (·.size) = some 33 := by kernel_rfl
theorem ptC_one (ix : Nat) (sc : List UInt8) : (ptC ix sc).all (·.oneCell') = true := by
  unfold ptC
  rw [Array.all_append, hC_one]
  simp [Value.oneCell']
theorem kC_one (n : Int) (ix : Nat → Nat) (sc : Nat → List UInt8) (made : Bool) (hs : ∀ p, p < 32 → (sc p).length ≤ 32) : (kC n ix sc made).all (·.oneCell') = true := by
  rw [Array.all_eq_true_iff_forall_mem]
  intro v hv
  unfold kC at hv
  rw [List.mem_toArray] at hv
  obtain ⟨i, hi, rfl⟩ := List.mem_map.1 hv
  have hi := List.mem_range.1 hi
  unfold kCell
  split
  · rfl
  · split
    · rfl
    · split
      · rfl
      · have hp : (i - 1) / 33 < 32 := by omega
        have hz := hC_size (sc ((i - 1) / 33)) (hs _ hp)
        rw [Array.getD, dif_pos (by rw [hz]; omega)]
        exact Array.all_eq_true_iff_forall_mem.1 (hC_one (sc ((i - 1) / 33))) _ (Array.getElem_mem _)
/- single operations -/
theorem allocP (w : World) : (Instr.alloc 57 true (.tuple #[])).run Tryd.prog w = .ok (.pointer (some ⟨w.heap.size, 0, none⟩)) (w.alloc (.cells (ptC 0 []) 57)) := by kernel_rfl
theorem idxKept {g p : Nat} (h : p < 32) {W : World} : (Instr.indexAt 58 (.pointer (some ⟨g, 1, none⟩)) (.int .i64 (p : Int))).run Tryd.prog W = .ok (.pointer (some ⟨g, 1 + 33 * p, none⟩)) W := by
  have h1 : (p : Int) < 32 := by omega
  have h2 : (0 : Int) ≤ (p : Int) := by omega
  have e : p * 33 = 33 * p := by omega
  go_simp
theorem fieldPlaces {g : Nat} {W : World} : (Instr.fieldAt 60 (.pointer (some ⟨g, 0, none⟩)) 1).run Tryd.prog W = .ok (.pointer (some ⟨g, 1, none⟩)) W := by
  go_simp
theorem fieldCount {g : Nat} {W : World} : (Instr.fieldAt 60 (.pointer (some ⟨g, 0, none⟩)) 0).run Tryd.prog W = .ok (.pointer (some ⟨g, 0, none⟩)) W := by
  go_simp
theorem fieldN {g : Nat} {W : World} : (Instr.fieldAt 55 (.pointer (some ⟨g, 0, none⟩)) 0).run Tryd.prog W = .ok (.pointer (some ⟨g, 0, none⟩)) W := by
  go_simp
theorem fieldMade {g : Nat} {W : World} : (Instr.fieldAt 60 (.pointer (some ⟨g, 0, none⟩)) 2).run Tryd.prog W = .ok (.pointer (some ⟨g, 1057, none⟩)) W := by
  go_simp
theorem loadPlace {w : World} {g p : Nat} {n : Int} {ix : Nat → Nat} {sc : Nat → List UInt8} {made : Bool} (hr : Row w g 60 (kC n ix sc made)) (hp : p < 32) (hs : (sc p).length ≤ 32) : (Instr.loadAt 57 (.pointer (some ⟨g, 1 + 33 * p, none⟩))).run Tryd.prog w = .ok (.agg (ptC (ix p) (sc p))) w := by
  have hsz := ptC_size (ix p) (sc p) hs
  exact run_load_part hr (fun j hj => kC_place n ix sc made p hp hs j (by omega)) Tryd.underlying57 rfl (by rw [hsz]; exact infoP)
theorem storePlace {w : World} {g p : Nat} {n : Int} {ix : Nat → Nat} {sc : Nat → List UInt8} {made : Bool} (hr : Row w g 60 (kC n ix sc made)) (hp : p < 32) (i : Nat) (s : List UInt8) (hs : s.length ≤ 32) :
    ∃ w', (Instr.storeAt 57 (.pointer (some ⟨g, 1 + 33 * p, none⟩)) (.agg (ptC i s))).run Tryd.prog w = .ok () w' ∧ Row w' g 60 (kC n (updF ix p i) (updF sc p s) made) ∧ w.grownBy w' (some g) := by
  have hsz := ptC_size i s hs
  refine ⟨_, run_store_row hr (ptC i s) (by rw [hsz]; exact infoP) (by rw [hsz, kC_size]; omega) (ptC_one i s), ?_, grown_setCells _ _ _⟩
  have h := row_setCells (ptC i s).toList (1 + 33 * p) w _ hr
  rw [kC_put n ix sc made p hp i s hs] at h
  exact h
theorem loadKeep {w : World} {g : Nat} {n : Int} {ix : Nat → Nat} {sc : Nat → List UInt8} {made : Bool} (hr : Row w g 60 (kC n ix sc made)) : (Instr.loadAt 60 (.pointer (some ⟨g, 0, none⟩))).run Tryd.prog w = .ok (.agg (kC n ix sc made)) w :=
  run_load_row hr Tryd.underlying60 rfl (by rw [kC_size]; exact infoK)
theorem buildKeep (w : World) : (Instr.build 60 #[(2, .bool true)]).run Tryd.prog w = .ok (.agg (kC 0 (fun _ => 0) (fun _ => []) true)) w := by kernel_rfl
theorem buildP0 (x : Int) (f : Nat → UInt8) (w : World) : (Instr.build 57 #[(0, .int .i64 x), (1, .agg ((List.range 32).map fun i => byteV (f i)).toArray)]).run Tryd.prog w = .ok (.agg (.int .i64 x :: (List.range 32).map fun i => byteV (f i)).toArray) w := by kernel_rfl
theorem hC_range (s : List UInt8) (hs : s.length ≤ 32) : hC s = ((List.range 32).map fun i => byteV ((s ++ Sha.zeros (32 - s.length)).getD i 0)).toArray := by
  unfold hC
  congr 1
  have hl : (s ++ Sha.zeros (32 - s.length)).length = 32 := by simp [Sha.zeros]; omega
  generalize s ++ Sha.zeros (32 - s.length) = l at *
  apply List.ext_getElem?
  intro i
  rw [List.getElem?_map, List.getElem?_map]
  by_cases hi : i < 32
  · rw [List.getElem?_range hi, List.getElem?_eq_getElem (by omega)]
    simp only [Option.map_some]
    rw [List.getD_eq_getElem?_getD, List.getElem?_eq_getElem (by omega)]
    rfl
  · rw [List.getElem?_eq_none (by omega), List.getElem?_eq_none (by simp; omega)]
    rfl
theorem buildP (i : Nat) (s : List UInt8) (hs : s.length ≤ 32) (w : World) : (Instr.build 57 #[(0, .int .i64 (i : Int)), (1, .agg (hC s))]).run Tryd.prog w = .ok (.agg (ptC i s)) w := by
  have h := buildP0 (i : Int) (fun j => (s ++ Sha.zeros (32 - s.length)).getD j 0) w
  rw [← hC_range s hs] at h
  have e : (Value.int .i64 (i : Int) :: (List.range 32).map fun j => byteV ((s ++ Sha.zeros (32 - s.length)).getD j 0)).toArray = ptC i s := by
    unfold ptC
    rw [hC_range s hs]
    generalize (List.range 32).map (fun j => byteV ((s ++ Sha.zeros (32 - s.length)).getD j 0)) = q
    simp
  rw [e] at h
  exact h
theorem zero_keep : Tryd.zeroCells60.setIfInBounds 1057 (.bool true) = kC 0 (fun _ => 0) (fun _ => []) true := by kernel_rfl
set_option maxRecDepth 100000 in
theorem knew_any (w : World) : Calls Tryd.prog 11 #[] w fun e w' => e = .returned (.pointer (some ⟨w.heap.size, 0, none⟩)) ∧ w' = w.alloc (.cells (kC 0 (fun _ => 0) (fun _ => []) true) 60) := by
  go_enter Tryd.func11, Tryd.ntmps11
  go_wp2
  go_ret
  exact ⟨rfl, by rw [zero_keep]⟩
end Go.Proofs.YthabgfghogdkcaaDoor
