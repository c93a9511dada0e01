/- The plain mathematics of SHA-256: words of 32 bits, the words of a block, a press, what comes behind bytes, the hash; no program in sight. -/
import Derived.Laws.BitsAllLaws
set_option linter.unusedVariables false
set_option linter.unusedSimpArgs false
namespace Go.Proofs.Ytfconncnccgenaa.Sha
abbrev W := BitVec 32
structure St where
  a : W
  b : W
  c : W
  d : W
  e : W
  f : W
  g : W
  h : W
def St.get (x : St) : Nat → W
  | 0 => x.a
  | 1 => x.b
  | 2 => x.c
  | 3 => x.d
  | 4 => x.e
  | 5 => x.f
  | 6 => x.g
  | _ => x.h
def St.list (x : St) : List W := [x.a, x.b, x.c, x.d, x.e, x.f, x.g, x.h]
def St.add (x y : St) : St := ⟨x.a + y.a, x.b + y.b, x.c + y.c, x.d + y.d, x.e + y.e, x.f + y.f, x.g + y.g, x.h + y.h⟩
def first : St := ⟨0x6a09e667#32, 0xbb67ae85#32, 0x3c6ef372#32, 0xa54ff53a#32, 0x510e527f#32, 0x9b05688c#32, 0x1f83d9ab#32, 0x5be0cd19#32⟩
def ks : List W := [0x428a2f98#32, 0x71374491#32, 0xb5c0fbcf#32, 0xe9b5dba5#32, 0x3956c25b#32, 0x59f111f1#32, 0x923f82a4#32, 0xab1c5ed5#32,
  0xd807aa98#32, 0x12835b01#32, 0x243185be#32, 0x550c7dc3#32, 0x72be5d74#32, 0x80deb1fe#32, 0x9bdc06a7#32, 0xc19bf174#32,
  0xe49b69c1#32, 0xefbe4786#32, 0x0fc19dc6#32, 0x240ca1cc#32, 0x2de92c6f#32, 0x4a7484aa#32, 0x5cb0a9dc#32, 0x76f988da#32,
  0x983e5152#32, 0xa831c66d#32, 0xb00327c8#32, 0xbf597fc7#32, 0xc6e00bf3#32, 0xd5a79147#32, 0x06ca6351#32, 0x14292967#32,
  0x27b70a85#32, 0x2e1b2138#32, 0x4d2c6dfc#32, 0x53380d13#32, 0x650a7354#32, 0x766a0abb#32, 0x81c2c92e#32, 0x92722c85#32,
  0xa2bfe8a1#32, 0xa81a664b#32, 0xc24b8b70#32, 0xc76c51a3#32, 0xd192e819#32, 0xd6990624#32, 0xf40e3585#32, 0x106aa070#32,
  0x19a4c116#32, 0x1e376c08#32, 0x2748774c#32, 0x34b0bcb5#32, 0x391c0cb3#32, 0x4ed8aa4a#32, 0x5b9cca4f#32, 0x682e6ff3#32,
  0x748f82ee#32, 0x78a5636f#32, 0x84c87814#32, 0x8cc70208#32, 0x90befffa#32, 0xa4506ceb#32, 0xbef9a3f7#32, 0xc67178f2#32]
def kc (t : Nat) : W := ks.getD t 0#32
def ror (x : W) (n : Nat) : W := (x >>> n) ||| (x <<< (32 - n))
def S0 (x : W) : W := ror x 2 ^^^ ror x 13 ^^^ ror x 22
def S1 (x : W) : W := ror x 6 ^^^ ror x 11 ^^^ ror x 25
def s0 (x : W) : W := ror x 7 ^^^ ror x 18 ^^^ (x >>> 3)
def s1 (x : W) : W := ror x 17 ^^^ ror x 19 ^^^ (x >>> 10)
def ch (e f g : W) : W := g ^^^ (e &&& (f ^^^ g))
def maj (a b c : W) : W := (a &&& (b ||| c)) ||| (b &&& c)
def rnd (k w : W) (x : St) : St :=
  ⟨x.h + S1 x.e + ch x.e x.f x.g + k + w + (S0 x.a + maj x.a x.b x.c), x.a, x.b, x.c, x.d + (x.h + S1 x.e + ch x.e x.f x.g + k + w), x.e, x.f, x.g⟩
/- the words of a block, the newest ahead -/
def nxt (l : List W) : W := s1 (l.getD 1 0#32) + l.getD 6 0#32 + s0 (l.getD 14 0#32) + l.getD 15 0#32
def Ms (m : Nat → W) : Nat → List W
  | 0 => []
  | t + 1 => (if t < 16 then m t else nxt (Ms m t)) :: Ms m t
def M (m : Nat → W) (t : Nat) : W := (Ms m (t + 1)).headD 0#32
theorem Ms_len (m : Nat → W) (t : Nat) : (Ms m t).length = t := by
  induction t with
  | zero => rfl
  | succ t ih => rw [Ms, List.length_cons, ih]
theorem Ms_get (m : Nat → W) (t : Nat) : ∀ i, i < t → (Ms m t).getD i 0#32 = M m (t - 1 - i) := by
  induction t with
  | zero => intro i h; omega
  | succ t ih =>
    intro i h
    rcases i with _ | i
    · rfl
    · rw [Ms, List.getD_cons_succ, ih i (by omega)]
      congr 1
      omega
theorem M_lt (m : Nat → W) {t : Nat} (h : t < 16) : M m t = m t := by
  unfold M
  rw [Ms, if_pos h]
  rfl
theorem M_ge (m : Nat → W) {t : Nat} (h : 16 ≤ t) : M m t = s1 (M m (t - 2)) + M m (t - 7) + s0 (M m (t - 15)) + M m (t - 16) := by
  unfold M
  rw [Ms, if_neg (by omega)]
  show nxt (Ms m t) = _
  unfold nxt
  rw [Ms_get m t 1 (by omega), Ms_get m t 6 (by omega), Ms_get m t 14 (by omega), Ms_get m t 15 (by omega)]
  rw [show t - 1 - 1 = t - 2 from by omega, show t - 1 - 6 = t - 7 from by omega, show t - 1 - 14 = t - 15 from by omega, show t - 1 - 15 = t - 16 from by omega]
  rfl
def rs (x : St) (m : Nat → W) : Nat → St
  | 0 => x
  | t + 1 => rnd (kc t) (M m t) (rs x m t)
def press (x : St) (m : Nat → W) : St := (rs x m 64).add x
/- bytes -/
def zx (c : UInt8) : W := BitVec.setWidth 32 c.toBitVec
def be (l : List UInt8) : W := l.foldl (fun n x => (n <<< 8) ||| zx x) 0#32
def wd (l : List UInt8) (i : Nat) : W := be ((l.drop (4 * i)).take 4)
def blk (x : St) (l : List UInt8) : St := press x (wd l)
def foldN : Nat → St → List UInt8 → St
  | 0, x, _ => x
  | n + 1, x, l => foldN n (blk x (l.take 64)) (l.drop 64)
theorem foldN_add (n k : Nat) : ∀ (x : St) (l : List UInt8), foldN (n + k) x l = foldN k (foldN n x l) (l.drop (64 * n)) := by
  induction n with
  | zero => intro x l; simp [foldN]
  | succ n ih =>
    intro x l
    rw [Nat.succ_add, foldN, ih, foldN, List.drop_drop]
    congr 2
    omega
theorem foldN_left (n : Nat) : ∀ (x : St) (l b : List UInt8), 64 * n ≤ l.length → foldN n x (l ++ b) = foldN n x l := by
  induction n with
  | zero => intro x l b _; rfl
  | succ n ih =>
    intro x l b h
    rw [foldN, foldN, List.take_append_of_le_length (by omega), List.drop_append_of_le_length (by omega), ih]
    rw [List.length_drop]; omega
def state (l : List UInt8) : St := foldN (l.length / 64) first l
def left (l : List UInt8) : List UInt8 := l.drop (64 * (l.length / 64))
theorem left_len (l : List UInt8) : (left l).length = l.length % 64 := by unfold left; rw [List.length_drop]; omega
/-- Bytes that do not fill the block. -/
theorem state_part (l b : List UInt8) (h : l.length % 64 + b.length < 64) : state (l ++ b) = state l ∧ left (l ++ b) = left l ++ b := by
  have e : (l ++ b).length / 64 = l.length / 64 := by rw [List.length_append]; omega
  refine ⟨?_, ?_⟩
  · unfold state; rw [e, foldN_left _ _ _ _ (by omega)]
  · unfold left; rw [e, List.drop_append_of_le_length (by omega)]
/-- Bytes that fill it. -/
theorem state_full (l b : List UInt8) (h : l.length % 64 + b.length = 64) : state (l ++ b) = blk (state l) (left l ++ b) ∧ left (l ++ b) = [] := by
  have e : (l ++ b).length / 64 = l.length / 64 + 1 := by rw [List.length_append]; omega
  have hd : (l ++ b).drop (64 * (l.length / 64)) = left l ++ b := by unfold left; rw [List.drop_append_of_le_length (by omega)]
  have hl : (left l ++ b).length = 64 := by rw [List.length_append, left_len]; exact h
  refine ⟨?_, ?_⟩
  · unfold state
    rw [e, foldN_add, foldN_left _ _ _ _ (by omega), hd, foldN, foldN, List.take_of_length_le (by omega)]
  · unfold left; rw [e]; exact List.drop_eq_nil_of_le (by rw [List.length_append]; omega)
def zeros (n : Nat) : List UInt8 := List.replicate n 0
def told (n many : Nat) : List UInt8 := (List.range many).map fun i => UInt8.ofNat (n / 256 ^ (many - 1 - i))
def noughts (n : Nat) : Nat := (119 - n % 64) % 64
def padded (l : List UInt8) : List UInt8 := l ++ (128 :: zeros (noughts l.length)) ++ told (l.length * 8) 8
def toldSt (x : St) : List UInt8 := (x.list.map fun w => told w.toNat 4).flatten
def sum (l : List UInt8) : List UInt8 := toldSt (state (padded l))
def twice (l : List UInt8) : List UInt8 := sum (sum l)
def named (name l : List UInt8) : List UInt8 := sum (sum name ++ sum name ++ l)
theorem told_len (n many : Nat) : (told n many).length = many := by simp [told]
theorem padded_len (l : List UInt8) : (padded l).length % 64 = 0 := by
  unfold padded zeros noughts
  simp only [List.length_append, List.length_cons, List.length_replicate, told_len]
  omega
theorem padded_left (l : List UInt8) : left (padded l) = [] := List.eq_nil_of_length_eq_zero (by rw [left_len, padded_len])
theorem toldSt_len (x : St) : (toldSt x).length = 32 := by simp [toldSt, St.list, told_len]
theorem sum_len (l : List UInt8) : (sum l).length = 32 := toldSt_len _
/- bit by bit -/
theorem ch_bit (e f g : W) (i : Nat) : (ch e f g).getLsbD i = if e.getLsbD i then f.getLsbD i else g.getLsbD i := by
  simp only [ch, BitVec.getLsbD_xor, BitVec.getLsbD_and]
  cases e.getLsbD i <;> cases f.getLsbD i <;> cases g.getLsbD i <;> rfl
theorem maj_bit (a b c : W) (i : Nat) : (maj a b c).getLsbD i = decide (2 ≤ (a.getLsbD i).toNat + (b.getLsbD i).toNat + (c.getLsbD i).toNat) := by
  simp only [maj, BitVec.getLsbD_or, BitVec.getLsbD_and]
  cases a.getLsbD i <;> cases b.getLsbD i <;> cases c.getLsbD i <;> rfl
/-- The low k bits. -/
theorem low_succ (x : W) (k : Nat) : x.toNat % 2 ^ (k + 1) = x.toNat % 2 ^ k + (x.getLsbD k).toNat * 2 ^ k := by
  have h2 : (x.getLsbD k).toNat = x.toNat / 2 ^ k % 2 := by
    show (x.toNat.testBit k).toNat = _
    rw [Nat.testBit_eq_decide_div_mod_eq]
    by_cases h : x.toNat / 2 ^ k % 2 = 1
    · rw [decide_eq_true h, h]; rfl
    · rw [decide_eq_false h]; simp; omega
  rw [h2, Nat.pow_succ, Nat.mod_mul, Nat.mul_comm (2 ^ k)]
theorem low_all (x : W) : x.toNat % 2 ^ 32 = x.toNat := Nat.mod_eq_of_lt x.isLt
/- the last sixteen words, each at its place -/
def ringAt (m : Nat → W) (t j : Nat) : W := M m ((max t 16) - 1 - (((max t 16) - 1 - j) % 16))
theorem ringAt_low (m : Nat → W) (t j : Nat) (h : t ≤ 16) (hj : j < 16) : ringAt m t j = m j := by
  unfold ringAt
  rw [show max t 16 = 16 from by omega, show 16 - 1 - ((16 - 1 - j) % 16) = j from by omega, M_lt m hj]
theorem ringAt_read (m : Nat → W) (t i : Nat) (h : 16 ≤ t) (hi : i < 16) : ringAt m t ((t + i) % 16) = M m (t - 16 + i) := by
  unfold ringAt
  rw [show max t 16 = t from by omega]
  congr 1
  omega
theorem ringAt_new (m : Nat → W) (t : Nat) (h : 16 ≤ t) : ringAt m (t + 1) (t % 16) = M m t := by
  unfold ringAt
  rw [show max (t + 1) 16 = t + 1 from by omega]
  congr 1
  omega
theorem ringAt_old (m : Nat → W) (t j : Nat) (hj : j < 16) (hne : j ≠ t % 16 ∨ t < 16) : ringAt m (t + 1) j = ringAt m t j := by
  unfold ringAt
  by_cases h : 16 ≤ t
  · rw [show max (t + 1) 16 = t + 1 from by omega, show max t 16 = t from by omega]
    congr 1
    omega
  · rw [show max (t + 1) 16 = 16 from by omega, show max t 16 = 16 from by omega]
theorem ring_sum (m : Nat → W) (t : Nat) (h : 16 ≤ t) : M m (t - 16) + (s0 (M m (t - 15)) + M m (t - 7) + s1 (M m (t - 2))) = M m t := by
  rw [M_ge m h]
  generalize M m (t - 16) = a
  generalize s0 (M m (t - 15)) = b
  generalize M m (t - 7) = c
  generalize s1 (M m (t - 2)) = d
  rw [BitVec.add_comm a, BitVec.add_comm d c, BitVec.add_assoc c, BitVec.add_comm d b, ← BitVec.add_assoc c, BitVec.add_comm c b]
example : sum [97, 98, 99] = [0xba, 0x78, 0x16, 0xbf, 0x8f, 0x01, 0xcf, 0xea, 0x41, 0x41, 0x40, 0xde, 0x5d, 0xae, 0x22, 0x23, 0xb0, 0x03, 0x61, 0xa3, 0x96, 0x17, 0x7a, 0x9c, 0xb4, 0x10, 0xff, 0x61, 0xf2, 0x00, 0x15, 0xad] := by decide +kernel
end Go.Proofs.Ytfconncnccgenaa.Sha
