/- The plain mathematics of HMAC: the block of a key, the tag, what a key is expanded to, its children; no program in sight. -/
import Derived.Test.YtbjclmfhmdalkaaBa1
set_option linter.unusedVariables false
set_option linter.unusedSimpArgs false
namespace Go.Proofs.Ytbjclmfhmdalkaa.Hm
def short (key : List UInt8) : List UInt8 := if 64 < key.length then Sha.sum key else key
theorem short_le (key : List UInt8) : (short key).length ≤ 64 := by
  unfold short
  split
  · rw [Sha.sum_len]; omega
  · omega
def pad (key : List UInt8) : List UInt8 := short key ++ Sha.zeros (64 - (short key).length)
theorem pad_len (key : List UInt8) : (pad key).length = 64 := by
  have := short_le key
  simp only [pad, List.length_append, Sha.zeros, List.length_replicate]
  omega
def turn (c : UInt8) (b : List UInt8) : List UInt8 := b.map (· ^^^ c)
theorem turn_len (c : UInt8) (b : List UInt8) : (turn c b).length = b.length := by simp [turn]
def tag (key msg : List UInt8) : List UInt8 := Sha.sum (turn 92 (pad key) ++ Sha.sum (turn 54 (pad key) ++ msg))
theorem tag_len (key msg : List UInt8) : (tag key msg).length = 32 := Sha.sum_len _
def tags (key name : List UInt8) : Nat → List UInt8
  | 0 => []
  | i + 1 => tag key (tags key name i ++ name ++ [UInt8.ofNat (i + 1)])
theorem tags_len (key name : List UInt8) (i : Nat) : (tags key name (i + 1)).length = 32 := tag_len _ _
def all (key name : List UInt8) : Nat → List UInt8
  | 0 => []
  | i + 1 => all key name i ++ tags key name (i + 1)
theorem all_len (key name : List UInt8) : ∀ i, (all key name i).length = 32 * i
  | 0 => rfl
  | i + 1 => by rw [all, List.length_append, all_len key name i, tags_len]; omega
theorem all_take (key name : List UInt8) (i j : Nat) : (all key name (i + j)).take (32 * i) = all key name i := by
  induction j with
  | zero => rw [Nat.add_zero, List.take_of_length_le (by rw [all_len]; omega)]
  | succ j ih => rw [← Nat.add_assoc, all, List.take_append_of_le_length (by rw [all_len]; omega), ih]
def expand (key name : List UInt8) (n : Nat) : List UInt8 := (all key name ((n + 31) / 32)).take n
theorem expand_len (key name : List UInt8) (n : Nat) : (expand key name n).length = n := by
  rw [expand, List.length_take, all_len]; omega
theorem expand_of (key name : List UInt8) (n i : Nat) (h : n ≤ 32 * i) : (all key name i).take n = expand key name n := by
  obtain ⟨j, rfl⟩ : ∃ j, i = (n + 31) / 32 + j := ⟨i - (n + 31) / 32, by omega⟩
  rw [expand, ← all_take key name ((n + 31) / 32) j, List.take_take, Nat.min_eq_left (by omega)]
theorem expand_take (key name : List UInt8) (m n : Nat) (h : m ≤ n) : (expand key name n).take m = expand key name m := by
  rw [expand, List.take_take, Nat.min_eq_left h]
  exact expand_of key name m _ (by omega)
/-- The eight bytes of a number, the highest first. -/
def be (x : Nat) : List UInt8 := (List.range 8).map fun i => UInt8.ofNat (x / 2 ^ (56 - 8 * i))
theorem be_len (x : Nat) : (be x).length = 8 := by simp [be]
def label (s : List UInt8 × Nat) : List UInt8 := s.1 ++ [0] ++ be s.2
def child : List UInt8 → List (List UInt8 × Nat) → List UInt8
  | key, [] => Sha.sum key
  | key, [s] => expand key (label s) 32
  | key, s :: t :: l => child (expand key (label s) 32) (t :: l)
def down (key : List UInt8) (l : List (List UInt8 × Nat)) : List UInt8 := l.foldl (fun k s => expand k (label s) 32) key
theorem child_down : ∀ (l : List (List UInt8 × Nat)) (key : List UInt8), child key l = if l = [] then Sha.sum key else down key l
  | [], key => rfl
  | [s], key => by simp [child, down]
  | s :: t :: l, key => by
    rw [child, child_down (t :: l), if_neg (by simp), if_neg (by simp), down, down, List.foldl_cons (l := t :: l)]
theorem child_len (key : List UInt8) (l : List (List UInt8 × Nat)) : (child key l).length = 32 := by
  rw [child_down]
  split
  · exact Sha.sum_len _
  · next h =>
    rcases List.eq_nil_or_concat l with e | ⟨l', s, rfl⟩
    · exact absurd e h
    · rw [List.concat_eq_append, down, List.foldl_append]
      exact expand_len _ _ _
theorem child_two (key : List UInt8) (s t : List UInt8 × Nat) : child key [s, t] = child (child key [s]) [t] := by simp [child]
theorem pad_zeros (key : List UInt8) (k : Nat) (h : key.length + k ≤ 64) : pad (key ++ Sha.zeros k) = pad key := by
  have h1 : short key = key := if_neg (by omega)
  have h2 : short (key ++ Sha.zeros k) = key ++ Sha.zeros k := if_neg (by simp [Sha.zeros]; omega)
  rw [pad, pad, h1, h2, List.append_assoc]
  congr 1
  simp only [Sha.zeros, List.length_append, List.length_replicate, List.replicate_append_replicate]
  congr 1
  omega
theorem pad_sum (key : List UInt8) (h : 64 < key.length) : pad (Sha.sum key) = pad key := by
  have h1 : short key = Sha.sum key := if_pos h
  have h2 : short (Sha.sum key) = Sha.sum key := if_neg (by rw [Sha.sum_len]; omega)
  rw [pad, pad, h1, h2]
theorem tag_zeros (key msg : List UInt8) (k : Nat) (h : key.length + k ≤ 64) : tag (key ++ Sha.zeros k) msg = tag key msg := by
  rw [tag, tag, pad_zeros key k h]
theorem tag_sum (key msg : List UInt8) (h : 64 < key.length) : tag (Sha.sum key) msg = tag key msg := by
  rw [tag, tag, pad_sum key h]
end Go.Proofs.Ytbjclmfhmdalkaa.Hm
