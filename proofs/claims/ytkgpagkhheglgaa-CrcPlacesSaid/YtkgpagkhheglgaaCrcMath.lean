/- The plain mathematics of the sum CRC-32C on words of 32 bits: a step, eight steps, a byte, bytes; the table's law; no program in sight. -/
import Derived.Laws.BitsAllLaws
namespace Go.Proofs.Ytkgpagkhheglgaa.Crc

def poly : BitVec 32 := 0x82f63b78#32
def step (x : BitVec 32) : BitVec 32 := (x >>> 1) ^^^ (if x.getLsbD 0 then poly else 0#32)
def steps : Nat → BitVec 32 → BitVec 32
  | 0, x => x
  | n + 1, x => step (steps n x)
def zx (c : UInt8) : BitVec 32 := BitVec.setWidth 32 c.toBitVec
def byteOn (w : BitVec 32) (c : UInt8) : BitVec 32 := steps 8 (w ^^^ zx c)
def run (w : BitVec 32) (l : List UInt8) : BitVec 32 := l.foldl byteOn w
def more (s : BitVec 32) (l : List UInt8) : BitVec 32 := ~~~ (run (~~~ s) l)
def sum (l : List UInt8) : BitVec 32 := more 0#32 l
def tab (i : Nat) : BitVec 32 := steps 8 (BitVec.ofNat 32 i)

theorem step_xor (x y : BitVec 32) : step (x ^^^ y) = step x ^^^ step y := by
  unfold step
  rw [BitVec.ushiftRight_xor_distrib, BitVec.getLsbD_xor]
  cases x.getLsbD 0 <;> cases y.getLsbD 0 <;> simp
  · rw [BitVec.xor_assoc]
  · rw [BitVec.xor_assoc, BitVec.xor_assoc, BitVec.xor_comm poly]
  · rw [BitVec.xor_assoc, ← BitVec.xor_assoc poly, BitVec.xor_comm poly, BitVec.xor_assoc (y >>> 1), BitVec.xor_self]; simp

theorem step_zero : step 0#32 = 0#32 := by decide

theorem steps_xor (n : Nat) (x y : BitVec 32) : steps n (x ^^^ y) = steps n x ^^^ steps n y := by
  induction n with
  | zero => rfl
  | succ n ih => simp only [steps, ih, step_xor]

theorem steps_zero (n : Nat) : steps n 0#32 = 0#32 := by
  induction n with
  | zero => rfl
  | succ n ih => simp only [steps, ih, step_zero]

theorem steps_add (m n : Nat) (x : BitVec 32) : steps (m + n) x = steps m (steps n x) := by
  induction m with
  | zero => simp [steps]
  | succ m ih => rw [Nat.succ_add]; simp only [steps, ih]

theorem steps_low (n : Nat) (x : BitVec 32) (h : ∀ i, i < n → x.getLsbD i = false) : steps n x = x >>> n := by
  induction n with
  | zero => simp [steps]
  | succ n ih =>
    have e := ih (fun i hi => h i (by omega))
    simp only [steps, e]
    unfold step
    have h0 : (x >>> n).getLsbD 0 = false := by rw [BitVec.getLsbD_ushiftRight]; simpa using h n (by omega)
    rw [h0]
    simp only [Bool.false_eq_true, if_false, BitVec.xor_zero]
    rw [BitVec.shiftRight_add]

theorem mask_split (y : BitVec 32) : (y &&& 0xff#32) ^^^ (y &&& 0xffffff00#32) = y := by
  have h : y = y &&& (0xff#32 ^^^ 0xffffff00#32) := by
    have : (0xff#32 ^^^ 0xffffff00#32) = BitVec.allOnes 32 := by decide
    rw [this, BitVec.and_allOnes]
  conv => rhs; rw [h]
  ext i
  simp only [BitVec.getElem_xor, BitVec.getElem_and]
  cases y[i] <;> simp

theorem table_step (r : BitVec 32) (c : UInt8) : (r >>> 8) ^^^ steps 8 ((r ^^^ zx c) &&& 0xff#32) = byteOn r c := by
  unfold byteOn
  have h := mask_split (r ^^^ zx c)
  conv => rhs; rw [← h, steps_xor]
  rw [BitVec.xor_comm]
  congr 1
  rw [steps_low]
  · apply BitVec.eq_of_getLsbD_eq
    intro i hi
    simp only [BitVec.getLsbD_ushiftRight, BitVec.getLsbD_and, BitVec.getLsbD_xor, zx, BitVec.getLsbD_setWidth]
    by_cases h24 : i < 24
    · have hm : (0xffffff00#32).getLsbD (8 + i) = true := by
        have : ∀ j : Fin 24, (0xffffff00#32).getLsbD (8 + j.val) = true := by decide
        exact this ⟨i, h24⟩
      have hc : c.toBitVec.getLsbD (8 + i) = false := BitVec.getLsbD_of_ge _ _ (by omega)
      rw [hm, hc]; simp
    · have h1 : r.getLsbD (8 + i) = false := BitVec.getLsbD_of_ge _ _ (by omega)
      have hc : c.toBitVec.getLsbD (8 + i) = false := BitVec.getLsbD_of_ge _ _ (by omega)
      rw [h1, hc]; simp
  · intro i hi
    have hm : (0xffffff00#32).getLsbD i = false := by
      have : ∀ j : Fin 8, (0xffffff00#32).getLsbD j.val = false := by decide
      exact this ⟨i, hi⟩
    simp [BitVec.getLsbD_and, hm]

theorem run_append (w : BitVec 32) (a b : List UInt8) : run w (a ++ b) = run (run w a) b := List.foldl_append ..
theorem run_snoc (w : BitVec 32) (a : List UInt8) (c : UInt8) : run w (a ++ [c]) = byteOn (run w a) c := by rw [run_append]; rfl

/- the values of a walk -/
theorem u32_xor_bv (a b : BitVec 32) : bits .xor .u32 (a.toNat : Int) (b.toNat : Int) = ((a ^^^ b).toNat : Int) := by
  rw [u32_xor_nat _ _ a.isLt b.isLt, BitVec.toNat_xor]
theorem u32_and_bv (a b : BitVec 32) : bits .and .u32 (a.toNat : Int) (b.toNat : Int) = ((a &&& b).toNat : Int) := by
  rw [u32_and_nat _ _ a.isLt b.isLt, BitVec.toNat_and]
theorem shr_bv (x : BitVec 32) (k : Nat) : (x.toNat : Int) / (2 ^ k : Nat) = ((x >>> k).toNat : Int) := by
  rw [BitVec.toNat_ushiftRight, Nat.shiftRight_eq_div_pow]; rfl

theorem step_val (x : BitVec 32) :
    bits .xor .u32 ((x.toNat : Int) / 2) (bits .and .u32 (x.toNat : Int) 1 * 2197175160 % 4294967296) = ((step x).toNat : Int) := by
  have h1 : (x.toNat : Int) / (2 : Int) = ((x >>> 1).toNat : Int) := by rw [BitVec.toNat_ushiftRight, Nat.shiftRight_eq_div_pow]; omega
  have h2 : bits .and .u32 (x.toNat : Int) 1 * 2197175160 % 4294967296 = ((if x.getLsbD 0 then poly else 0#32).toNat : Int) := by
    rw [show (1 : Int) = ((1 : Nat) : Int) from rfl, u32_and_nat _ _ x.isLt (by decide), nat_mask1]
    have : x.getLsbD 0 = decide (x.toNat % 2 = 1) := by
      simp [BitVec.getLsbD, Nat.testBit_zero]
    rw [this]
    rcases Nat.mod_two_eq_zero_or_one x.toNat with h | h <;> rw [h] <;> decide
  rw [h1, h2, u32_xor_bv]; rfl

theorem u8_of_u32 (x : BitVec 32) : (x.toNat : Int) % 256 = ((x.toNat % 256 : Nat) : Int) := by omega

theorem take_val (y : BitVec 32) (c : UInt8) (j : Nat) (hj : j = (y.toNat % 256) ^^^ c.toNat) :
    bits .xor .u32 ((y.toNat : Int) / 256) ((tab j).toNat : Int) = ((byteOn y c).toNat : Int) := by
  have h1 : (y.toNat : Int) / (256 : Int) = ((y >>> 8).toNat : Int) := by rw [BitVec.toNat_ushiftRight, Nat.shiftRight_eq_div_pow]; omega
  have h2 : tab j = steps 8 ((y ^^^ zx c) &&& 0xff#32) := by
    unfold tab
    congr 1
    apply BitVec.eq_of_toNat_eq
    have hc : c.toNat < 256 := c.toNat_lt
    have hz : (zx c).toNat = c.toNat := by
      unfold zx
      rw [BitVec.toNat_setWidth]
      exact Nat.mod_eq_of_lt (by show c.toNat < _; omega)
    have hjl : j < 256 := by rw [hj]; exact Nat.xor_lt_two_pow (n := 8) (by omega) hc
    rw [BitVec.toNat_ofNat, Nat.mod_eq_of_lt (by omega), BitVec.toNat_and, BitVec.toNat_xor, hz, hj]
    show _ = (y.toNat ^^^ c.toNat) &&& 255
    rw [nat_mask8, show (256 : Nat) = 2 ^ 8 from rfl, Nat.xor_mod_two_pow, Nat.mod_eq_of_lt (a := c.toNat) hc]
  rw [h1, h2, u32_xor_bv, table_step]

end Go.Proofs.Ytkgpagkhheglgaa.Crc
