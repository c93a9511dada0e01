/- 'make' of bytes: so many noughts. -/
import Derived.Test.YtkgpagkhheglgaaLater
set_option linter.unusedVariables false
namespace Go.Proofs.Ytkgpagkhheglgaa
open Go.RowKit
/-- So many noughts. -/
def zeroB (n : Nat) : List UInt8 := List.replicate n 0
theorem zeroB_len (n : Nat) : (zeroB n).length = n := List.length_replicate
theorem run_make_bytes {P : Program} {t U : TypeId} (ht : P.underlying t = some (.slice U)) (hi : ByteInfo P U) (n : Nat) (hn : n ≤ 1099511627776) (w : World) :
    (Instr.makeSlice t (.int .i64 (n : Int)) (.int .i64 (n : Int))).run P w = .ok (.slice (some ⟨w.heap.size, 0, none⟩) n n) (w.alloc (.cells ((zeroB n).map byteV).toArray U)) := by
  obtain ⟨i, hi0, hz, hs, hb⟩ := info_parts hi
  have h := run_make (P := P) w t U i _ ht hi0 hz .i64 .i64 (n : Int) (n : Int) (by omega) (Int.le_refl _) (by rw [hb]; omega) (by omega)
  rw [h, Int.toNat_natCast, hs]
  congr 3
  apply Array.ext
  · simp [madeCells, zeroB]
  · intro j h1 h2
    simp [madeCells, zeroB, Value.cells, Nat.mod_one]
end Go.Proofs.Ytkgpagkhheglgaa
