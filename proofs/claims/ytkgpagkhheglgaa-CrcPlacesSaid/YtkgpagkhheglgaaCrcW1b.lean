/- The cells of a sum under way with its table. -/
import Derived.Test.YtkgpagkhheglgaaCrcW1
namespace Go.Proofs.Ytkgpagkhheglgaa
open Go.RowKit
def rc (x : BitVec 32) : Array Value := #[.int .u32 (x.toNat : Int)] ++ tabCells
theorem build57b (w : World) (x : BitVec 32) : (Instr.build 57 #[(0, .agg #[.int .u32 (x.toNat : Int)]), (1, .agg tabCells)]).run Try.prog w = .ok (.agg (rc x)) w := by kernel_rfl
theorem rc_size (x : BitVec 32) : (rc x).size = 257 := by simp [rc, tab_size]
theorem rc_get0 (x : BitVec 32) : (rc x)[0]? = some (.int .u32 (x.toNat : Int)) := by
  unfold rc
  rw [Array.getElem?_append_left (by simp)]; rfl
theorem rc_get (x : BitVec 32) (i : Nat) (h : i < 256) : (rc x)[i + 1]? = some (.int .u32 ((Crc.tab i).toNat : Int)) := by
  unfold rc
  rw [Array.getElem?_append_right (by simp)]
  simp only [List.size_toArray, List.length_cons, List.length_nil, Nat.zero_add, Nat.add_sub_cancel]
  rw [tabCells_get, if_pos h]
theorem rc_set (x y : BitVec 32) : (rc x).setIfInBounds 0 (.int .u32 (y.toNat : Int)) = rc y := by
  unfold rc
  rw [Array.setIfInBounds_append_left (by simp)]; simp
theorem rc_one (x : BitVec 32) : (rc x).all (·.oneCell') = true := by
  unfold rc; rw [Array.all_append, tab_one]; simp [Value.oneCell']
theorem store57y (x : BitVec 32) (w : World) : (Instr.storeAt 57 (.pointer (some ⟨w.heap.size, 0, none⟩)) (.agg (rc x))).run Try.prog (w.alloc (.cells z57 57)) = .ok () (w.alloc (.cells (rc x) 57)) :=
  run_storeAt_new w 57 z57 (rc x) (by rw [rc_size]; exact info57) (by rw [rc_size]; simp [z57]) (rc_one x)

end Go.Proofs.Ytkgpagkhheglgaa
