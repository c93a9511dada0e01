/- '[]byte(s)': what it makes reads as the string. -/
import Derived.Test.YtfconncnccgenaaShaR5
import Derived.Lib.ConvBytes
set_option linter.unusedVariables false
set_option linter.unusedSimpArgs false
namespace Go.Proofs.Ytfconncnccgenaa
open Go.RowKit
theorem conv_rd (w : World) (l : List UInt8) (hl : l.length ≤ 9223372036854775807) : ∃ W cap, (convert 9 23 (.string ⟨l.toArray⟩)).run Try.prog w = .ok (.slice (some ⟨w.heap.size, 0, none⟩) l.length cap) W ∧ Rd W (some ⟨w.heap.size, 0, none⟩) l ∧ l.length ≤ cap ∧ cap ≤ 9223372036854775807 ∧ Later w W := by
  refine ⟨_, _, Lib.run_convert_string_bytes (P := Try.prog) w 9 23 5 ⟨l.toArray⟩ Try.underlying9 Try.underlying23 Try.underlying5, fun _ => ⟨_, _, rfl, fun i hi => ?_⟩, grownCap_ge _ _ _ _, ?_, ⟨rfl, rfl, rfl, by rw [Lib.bytesWorld_size]; omega, fun b hb => Lib.bytesWorld_at_old _ _ _ b hb⟩⟩
  · rw [cell_of_row _ _ (0 + i) _ _ _ (Lib.bytesWorld_at_new _ _ _), Nat.zero_add]
    simp [Lib.bytesCells, Array.getElem?_append, hi]
  · have := grownCap_le_maxLen w l.length 0 5 (by unfold maxLen; exact hl)
    unfold maxLen at this
    exact this
theorem op_conv {P : Program} {Q : Exit → Act → World → Prop} {o : Oper} {a : Act} {W : World} {R : Value → World → Prop} {s t : TypeId} {x : Operand} {vx : Value} (ho : o.op = .convert s t x) (hx : a.eval x = vx) {v : Value} {W' : World} (hr : (convert s t vx).run P W = .ok v W') (hL : Later W W') (h : R v W') : o.wp P a W (fun a' W' => ∃ v, a' = a.put o.dst v ∧ Later W W' ∧ R v W') Q := op_convert ho hx hr hL h
end Go.Proofs.Ytfconncnccgenaa
