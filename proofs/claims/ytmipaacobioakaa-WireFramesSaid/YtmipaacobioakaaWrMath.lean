/- The plain law of a number's bytes: laid, and read back; no program in sight. -/
import Derived.Test.YtmipaacobioakaaWr3
set_option linter.unusedVariables false
set_option linter.unusedSimpArgs false
namespace Go.Proofs.Ytmipaacobioakaa.Wr
open Go.RowKit
def val (l : List UInt8) : Nat := l.foldl (fun a c => 256 * a + c.toNat) 0
theorem val_snoc (l : List UInt8) (c : UInt8) : val (l ++ [c]) = 256 * val l + c.toNat := by simp [val]
theorem fold_lt : ∀ (l : List UInt8) (a : Nat), l.foldl (fun a c => 256 * a + c.toNat) a < (a + 1) * 256 ^ l.length
  | [], a => by simp
  | c :: l, a => by
    have h := fold_lt l (256 * a + c.toNat)
    have hc := c.toNat_lt
    have h2 : (256 * a + c.toNat + 1) * 256 ^ l.length ≤ (256 * (a + 1)) * 256 ^ l.length := Nat.mul_le_mul_right _ (by omega)
    have h3 : (256 * (a + 1)) * 256 ^ l.length = (a + 1) * 256 ^ (l.length + 1) := by rw [Nat.pow_succ]; rw [Nat.mul_comm 256 (a + 1), Nat.mul_assoc, Nat.mul_comm 256]
    simp only [List.foldl_cons, List.length_cons]
    omega
theorem val_lt (l : List UInt8) : val l < 256 ^ l.length := by simpa [val] using fold_lt l 0
theorem fold_ge : ∀ (l : List UInt8) (a : Nat), a * 256 ^ l.length ≤ l.foldl (fun a c => 256 * a + c.toNat) a
  | [], a => by simp
  | c :: l, a => by
    have h := fold_ge l (256 * a + c.toNat)
    have h2 : (256 * a) * 256 ^ l.length ≤ (256 * a + c.toNat) * 256 ^ l.length := Nat.mul_le_mul_right _ (by omega)
    have h3 : (256 * a) * 256 ^ l.length = a * 256 ^ (l.length + 1) := by rw [Nat.pow_succ, Nat.mul_comm 256 a, Nat.mul_assoc, Nat.mul_comm 256]
    simp only [List.foldl_cons, List.length_cons]
    omega
theorem val_more (l : List UInt8) (i m : Nat) (h : i < m) (hm : m ≤ l.length) : 256 * val (l.take i) ≤ val (l.take m) := by
  have e : l.take m = l.take i ++ (l.take m).drop i := by
    have := List.take_append_drop i (l.take m)
    rw [List.take_take, Nat.min_eq_left (by omega)] at this
    exact this.symm
  have hl : ((l.take m).drop i).length = m - i := by simp; omega
  have h1 := fold_ge ((l.take m).drop i) (val (l.take i))
  rw [hl] at h1
  have h2 : val (l.take m) = ((l.take m).drop i).foldl (fun a c => 256 * a + c.toNat) (val (l.take i)) := by
    unfold val
    rw [← List.foldl_append, ← e]
  rw [h2]
  have h3 : 256 ^ 1 ≤ 256 ^ (m - i) := Nat.pow_le_pow_right (by decide) (by omega)
  have h4 : val (l.take i) * 256 ≤ val (l.take i) * 256 ^ (m - i) := Nat.mul_le_mul_left _ h3
  omega
def at_ (n k i : Nat) : UInt8 := UInt8.ofNat (n / 2 ^ (8 * (k - 1 - i)))
def be (k n : Nat) : List UInt8 := (List.range k).map (at_ n k)
theorem be_len (k n : Nat) : (be k n).length = k := by simp [be]
theorem be_take (k n i : Nat) (h : i < k) : (be k n).take (i + 1) = (be k n).take i ++ [at_ n k i] := by
  rw [List.take_succ_eq_append_getElem (by rw [be_len]; exact h)]
  simp [be]
def bytes (n : Nat) : List UInt8 := if n < 253 then [UInt8.ofNat n] else if n < 65536 then 253 :: be 2 n else if n < 4294967296 then 254 :: be 4 n else 255 :: be 8 n
theorem bytes_len (n : Nat) : (bytes n).length = if n < 253 then 1 else if n < 65536 then 3 else if n < 4294967296 then 5 else 9 := by
  unfold bytes
  split
  · rfl
  · split
    · simp [be_len]
    · split <;> simp [be_len]
theorem bytes_le (n : Nat) : (bytes n).length ≤ 9 := by rw [bytes_len]; split <;> (try split) <;> (try split) <;> omega
def many (c : UInt8) : Nat := if c = 253 then 2 else if c = 254 then 4 else if c = 255 then 8 else 0
def first : List UInt8 → Nat × Int
  | [] => (0, 0)
  | c :: r => if many c = 0 then (c.toNat, 1) else if r.length < many c then (0, 0) else
    if 4611686018427387904 < val (r.take (many c)) ∨ (bytes (val (r.take (many c)))).length ≠ 1 + many c then (0, -1) else (val (r.take (many c)), 1 + (many c : Int))
end Go.Proofs.Ytmipaacobioakaa.Wr
