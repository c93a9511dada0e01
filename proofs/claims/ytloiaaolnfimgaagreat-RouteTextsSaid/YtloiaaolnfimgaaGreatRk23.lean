/- Walks, route: Text, up to the sealed bytes. -/
import Derived.Test.YtloiaaolnfimgaaGreatRk22
set_option linter.unusedVariables false
set_option linter.unusedSimpArgs false
namespace Go.Proofs.YtloiaaolnfimgaaGreat
open Go.RowKit Rt
theorem buildHs20 (f g : Nat → Value) (w : World) : (Instr.buildSlice 170 2 #[(0, .agg ((List.range 32).map f).toArray), (1, .agg ((List.range 32).map g).toArray)]).run Tryz.prog w = .ok (.slice (some ⟨w.heap.size, 0, none⟩) 2 2) (w.alloc (.cells ((List.range 32).map f ++ (List.range 32).map g).toArray 25)) := by kernel_rfl
theorem buildHs2 {a b : List UInt8} (ha : a.length = 32) (hb : b.length = 32) (w : World) : (Instr.buildSlice 170 2 #[(0, .agg (hC a)), (1, .agg (hC b))]).run Tryz.prog w = .ok (.slice (some ⟨w.heap.size, 0, none⟩) 2 2) (w.alloc (.cells ((hC a).toList ++ (hC b).toList).toArray 25)) := by
  have h1 := arr_range (hC a) 32 (hC_size a (by omega))
  have h2 := arr_range (hC b) 32 (hC_size b (by omega))
  rw [h1, h2]
  exact buildHs20 _ _ w
theorem rdH_two {a b : List UInt8} (ha : a.length = 32) (hb : b.length = 32) (w : World) : RdH (w.alloc (.cells ((hC a).toList ++ (hC b).toList).toArray 25)) (some ⟨w.heap.size, 0, none⟩) [a, b] := fun _ => by
  have hr := Row.new w 25 ((hC a).toList ++ (hC b).toList).toArray
  refine ⟨_, _, rfl, fun i hi j v hj => ?_⟩
  have h1 : (hC a).toList.length = 32 := by rw [Array.length_toList, hC_size a (by omega)]
  have h2 : (hC b).toList.length = 32 := by rw [Array.length_toList, hC_size b (by omega)]
  have hi2 : i = 0 ∨ i = 1 := by simp at hi; omega
  rcases hi2 with rfl | rfl
  · have hjl : j < 32 := by rw [← h1]; exact (List.getElem?_eq_some_iff.1 hj).1
    refine (hr.cell _).trans ?_
    rw [List.getElem?_toArray, List.getElem?_append_left (by rw [h1]; omega)]
    simpa using hj
  · have hjl : j < 32 := by rw [← h2]; exact (List.getElem?_eq_some_iff.1 hj).1
    refine (hr.cell _).trans ?_
    rw [List.getElem?_toArray, List.getElem?_append_right (by rw [h1]; omega), h1, show 0 + 1 * 32 + j - 32 = j by omega]
    simpa using hj
theorem buildI2 (a b : Int) (w : World) : (Instr.buildSlice 101 2 #[(0, .int .i64 a), (1, .int .i64 b)]).run Tryz.prog w = .ok (.slice (some ⟨w.heap.size, 0, none⟩) 2 2) (w.alloc (.cells #[.int .i64 a, .int .i64 b] 2)) := by kernel_rfl
theorem rdI_two (a b : Int) (w : World) : RdV (w.alloc (.cells #[.int .i64 a, .int .i64 b] 2)) (some ⟨w.heap.size, 0, none⟩) ([a, b].map numV) := fun _ => by
  have hr := Row.new w 2 #[.int .i64 a, .int .i64 b]
  refine ⟨_, _, rfl, fun i hi => ?_⟩
  have hi2 : i = 0 ∨ i = 1 := by simp at hi; omega
  rcases hi2 with rfl | rfl
  · exact (hr.cell 0).trans rfl
  · exact (hr.cell 1).trans rfl
end Go.Proofs.YtloiaaolnfimgaaGreat
