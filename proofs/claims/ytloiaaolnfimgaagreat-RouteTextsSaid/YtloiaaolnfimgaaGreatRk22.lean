/- Route: the digits of bytes, plain. -/
import Derived.Test.YtloiaaolnfimgaaGreatRk21
set_option linter.unusedVariables false
set_option linter.unusedSimpArgs false
namespace Go.Proofs.YtloiaaolnfimgaaGreat
open Go.RowKit Rt
theorem textOf_two (a b : List UInt8) : textOf (a ++ b) = textOf a ++ textOf b := by
  unfold textOf
  rw [List.flatMap_append]
theorem text_part (c : List UInt8) : (textOf (c ++ Sha.zeros (32 - c.length))).take (2 * c.length) = textOf c := by
  rw [textOf_two, List.take_append_of_le_length (by rw [textOf_len]; exact Nat.le_refl _), List.take_of_length_le (by rw [textOf_len]; exact Nat.le_refl _)]
theorem text_step (l : List UInt8) : textOf l = textOf (l.take 32) ++ textOf (l.drop 32) := by
  rw [← textOf_two, List.take_append_drop]
end Go.Proofs.YtloiaaolnfimgaaGreat
