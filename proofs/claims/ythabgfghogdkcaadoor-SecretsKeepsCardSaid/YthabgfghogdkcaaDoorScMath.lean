/- secrets, plainly: down from a base; what a keep of a seed has; small numbers by the kernel. -/
import Derived.Test.YthabgfghogdkcaaDoorSb4
import Derived.Lib.TrailingZeros
set_option linter.unusedVariables false
set_option linter.unusedSimpArgs false
namespace Go.Proofs.YthabgfghogdkcaaDoor
open Go.RowKit
namespace Sec
def flip (h : List UInt8) (b : Nat) : List UInt8 := h.set (b / 8) (h.getD (b / 8) 0 ^^^ (1 <<< UInt8.ofNat (b % 8)))
theorem flip_len (h : List UInt8) (b : Nat) : (flip h b).length = h.length := by simp [flip]
def step (ix : Nat) (h : List UInt8) (b : Nat) : List UInt8 := if ix.testBit b then Sha.sum (flip h b) else h
theorem step_len (ix : Nat) (h : List UInt8) (b : Nat) (hl : h.length = 32) : (step ix h b).length = 32 := by
  unfold step; split
  · exact Sha.sum_len _
  · exact hl
def run (ix : Nat) (bs : List Nat) (h : List UInt8) : List UInt8 := bs.foldl (step ix) h
def bits (n : Nat) : List Nat := (List.range n).reverse
def down (h : List UInt8) (n ix : Nat) : List UInt8 := run ix (bits n) h
theorem run_len (ix : Nat) : ∀ (bs : List Nat) (h : List UInt8), h.length = 32 → (run ix bs h).length = 32
  | [], _, hl => hl
  | b :: bs, h, hl => run_len ix bs _ (step_len ix h b hl)
theorem down_len (h : List UInt8) (n ix : Nat) (hl : h.length = 32) : (down h n ix).length = 32 := run_len _ _ _ hl
theorem run_congr (ix iy : Nat) : ∀ (bs : List Nat) (h : List UInt8), (∀ b ∈ bs, ix.testBit b = iy.testBit b) → run ix bs h = run iy bs h
  | [], _, _ => rfl
  | b :: bs, h, hb => by
    have e : step ix h b = step iy h b := by unfold step; rw [hb b (by simp)]
    show run ix bs (step ix h b) = run iy bs (step iy h b)
    rw [e]
    exact run_congr ix iy bs _ fun c hc => hb c (by simp [hc])
theorem run_none (ix : Nat) : ∀ (bs : List Nat) (h : List UInt8), (∀ b ∈ bs, ix.testBit b = false) → run ix bs h = h
  | [], _, _ => rfl
  | b :: bs, h, hb => by
    have e : step ix h b = h := by unfold step; rw [hb b (by simp)]; rfl
    show run ix bs (step ix h b) = h
    rw [e]
    exact run_none ix bs _ fun c hc => hb c (by simp [hc])
theorem run_append (ix : Nat) (us vs : List Nat) (h : List UInt8) : run ix (us ++ vs) h = run ix vs (run ix us h) := List.foldl_append ..
theorem bits_add (p m : Nat) : bits (p + m) = (bits m).map (p + ·) ++ bits p := by
  unfold bits
  rw [List.range_add, List.reverse_append, List.map_reverse]
theorem bits_mem {n b : Nat} (h : b ∈ bits n) : b < n := by simpa [bits] using h
/-- The loop's next turn. -/
theorem bits_cut (n k : Nat) (h : k < n) : (bits n).take (k + 1) = (bits n).take k ++ [n - 1 - k] := by
  rw [List.take_succ_eq_append_getElem (by simpa [bits] using h)]
  congr 1
  simp [bits]
/-- From one that ends with noughts down to its neighbours. -/
theorem down_near (h : List UInt8) (n p x y : Nat) (hp : p ≤ n) (hxy : x / 2 ^ p = y / 2 ^ p) (hx : x % 2 ^ p = 0) : down (down h n x) p y = down h n y := by
  obtain ⟨m, rfl⟩ : ∃ m, n = p + m := ⟨n - p, by omega⟩
  unfold down
  rw [bits_add, run_append, run_append]
  have e1 : ∀ b, (x.testBit (p + b)) = y.testBit (p + b) := fun b => by
    rw [Nat.add_comm p b, ← Nat.testBit_div_two_pow, ← Nat.testBit_div_two_pow, hxy]
  have e2 : ∀ b, b < p → x.testBit b = false := fun b hb => by
    have : x = 2 ^ p * (x / 2 ^ p) := by have := Nat.div_add_mod x (2 ^ p); omega
    rw [this, Nat.testBit_two_pow_mul]
    simp; omega
  rw [run_none x (bits p) _ fun b hb => e2 b (bits_mem hb)]
  congr 1
  refine run_congr _ _ _ _ fun b hb => ?_
  obtain ⟨c, hc, rfl⟩ := List.mem_map.1 hb
  exact e1 c
theorem down_same (h : List UInt8) (n : Nat) : down h n 0 = h := run_none 0 _ _ fun b _ => by simp
/-- How many noughts an index ends with; 31 at most. -/
def nought : Nat → Nat → Nat
  | 0, _ => 0
  | n + 1, x => if x % 2 = 1 then 0 else nought n (x / 2) + 1
def place (x : Nat) : Nat := nought 31 x
/-- The index of the last number, of so many, that a place has. -/
def ixOf (c p : Nat) : Nat := 2147483648 - ((c / 2 ^ p - 1) ||| 1) * 2 ^ p
def D (seed : List UInt8) (ix : Nat) : List UInt8 := down seed 31 ix
/-- What a keep of a seed has in a place. -/
def keptIx (c p : Nat) : Nat := if 0 < c / 2 ^ p then ixOf c p else 0
def keptSc (seed : List UInt8) (c p : Nat) : List UInt8 := if 0 < c / 2 ^ p then D seed (ixOf c p) else Sha.zeros 32
/-- The first place whose index is the same, but for its noughts. -/
def findAt (f : Nat → Nat) (ix : Nat) : Nat → Nat → Nat
  | 0, p => p
  | n + 1, p => if f p = ix / 2 ^ place (f p) * 2 ^ place (f p) then p else findAt f ix n (p + 1)
def okPut (c : Nat) : Bool :=
  let x := 2147483647 - c; let q := place x
  decide (q < 32) && decide (0 < (c + 1) / 2 ^ q) && decide (ixOf (c + 1) q = x) && decide (x % 2 ^ q = 0) && (List.range 32).all fun p => p == q || (keptIx (c + 1) p == keptIx c p && (decide (0 < (c + 1) / 2 ^ p) == decide (0 < c / 2 ^ p)) && (decide (q < p) || decide (keptIx c p ≤ x) || (decide (0 < c / 2 ^ p) && decide (keptIx c p / 2 ^ q = x / 2 ^ q))))
def okGet (c m : Nat) : Bool :=
  let x := 2147483647 - m; let a := findAt (keptIx c) x 32 0
  decide (a < 32) && decide (0 < c / 2 ^ a) && decide (place (keptIx c a) = a) && decide (keptIx c a % 2 ^ a = 0) && decide (keptIx c a / 2 ^ a = x / 2 ^ a)
theorem okPut_all : (List.range 201).all okPut = true := by decide +kernel
theorem okGet_all : ((List.range 201).all fun c => (List.range c).all (okGet c)) = true := by decide +kernel
theorem nought_le : ∀ (n x : Nat), nought n x ≤ n
  | 0, _ => Nat.le_refl _
  | n + 1, x => by
    unfold nought
    split
    · omega
    · have := nought_le n (x / 2); omega
theorem place_le (x : Nat) : place x ≤ 31 := nought_le 31 x
theorem nought_zero : ∀ n, nought n 0 = n
  | 0 => rfl
  | n + 1 => by unfold nought; rw [if_neg (by decide), nought_zero n]
theorem nought_ctz : ∀ (n k x : Nat), nought n x = min n (Lib.ctzFrom (n + k) x)
  | 0, k, x => by simp [nought]
  | n + 1, k, x => by
    rw [show n + 1 + k = (n + k) + 1 from by omega]
    unfold nought Lib.ctzFrom
    split
    · simp
    · rw [nought_ctz n k]; omega
theorem place_ctz (x : Nat) : place x = min 31 (Lib.ctz 64 x) := by
  unfold place Lib.ctz
  split
  · rename_i h; subst h; rw [nought_zero]; rfl
  · exact nought_ctz 31 33 x
theorem D_len (seed : List UInt8) (ix : Nat) (h : seed.length = 32) : (D seed ix).length = 32 := down_len _ _ _ h
end Sec
end Go.Proofs.YthabgfghogdkcaaDoor
