/- Runs of single operations: slices of slices that are built, slices up to a place. -/
import Derived.Test.YtfconncnccgenaaRows
import Derived.Test.YtfconncnccgenaaOrder2
set_option linter.unusedVariables false
set_option linter.unusedSimpArgs false
namespace Go.Proofs.Ytfconncnccgenaa
open Go.RowKit
theorem run_rows1 (W : World) (A : Option Addr) (n c : Nat) : (Instr.buildSlice 51 1 #[(0, .slice A n c)]).run Try.prog W = .ok (.slice (some ⟨W.heap.size, 0, none⟩) 1 1) (W.alloc (.cells #[.slice A n c] 23)) := by kernel_rfl
theorem run_rows2 (W : World) (A : Option Addr) (n c : Nat) (B : Option Addr) (m d : Nat) : (Instr.buildSlice 51 2 #[(0, .slice A n c), (1, .slice B m d)]).run Try.prog W = .ok (.slice (some ⟨W.heap.size, 0, none⟩) 2 2) (W.alloc (.cells #[.slice A n c, .slice B m d] 23)) := by kernel_rfl
theorem run_rows3 (W : World) (A : Option Addr) (n c : Nat) (B : Option Addr) (m d : Nat) (C : Option Addr) (p e : Nat) : (Instr.buildSlice 51 3 #[(0, .slice A n c), (1, .slice B m d), (2, .slice C p e)]).run Try.prog W = .ok (.slice (some ⟨W.heap.size, 0, none⟩) 3 3) (W.alloc (.cells #[.slice A n c, .slice B m d, .slice C p e] 23)) := by kernel_rfl
theorem run_slice_upto {P : Program} {t U : TypeId} {A : Option Addr} {n ca k : Nat} (ht : P.underlying t = some (.slice U)) (hi : ByteInfo P U) (h2 : k ≤ ca) :
    ∀ w : World, (Instr.sliceAt t (.slice A n ca) none (some (.int .i64 (k : Int))) none).run P w = .ok (.slice A k ca) w := fun w => by
  obtain ⟨i, hi0, hz, hs, hb⟩ := info_parts hi
  have he : P.elem t = U := by simp [Program.elem, ht]
  have ht' : P.underlying t = some (.slice (P.elem t)) := by rw [he]; exact ht
  rw [run_sliceAt_slice w t _ _ _ _ ht', run_slice_h w t A n ca ht' .i64 (k : Int) (by omega) (by omega), he]
  have hz : ∀ x : Addr, x.add 0 = x := fun x => by simp [Addr.add]
  simp [sizeOf, typeInfo, hi0, hs, sliced, hz]
theorem run_extract0 {P : Program} (x y : Value) (W : World) : (Instr.extract (.tuple #[x, y]) 0).run P W = .ok x W := by simp [Instr.extract]
theorem run_extract1 {P : Program} (x y : Value) (W : World) : (Instr.extract (.tuple #[x, y]) 1).run P W = .ok y W := by simp [Instr.extract]
end Go.Proofs.Ytfconncnccgenaa
