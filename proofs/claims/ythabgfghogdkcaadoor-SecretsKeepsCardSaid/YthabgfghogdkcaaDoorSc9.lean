/- Walks, secrets: last; what the bytes of a keep tell, plainly. -/
import Derived.Test.YthabgfghogdkcaaDoorSc8d
set_option linter.unusedVariables false
set_option linter.unusedSimpArgs false
namespace Go.Proofs.YthabgfghogdkcaaDoor
open Go.RowKit
theorem Sec.or_one (x : Nat) : x ||| 1 = if x % 2 = 1 then x else x + 1 := by
  by_cases h : x % 2 = 1
  · rw [if_pos h]
    have e : x = (x - 1) ||| 1 := by rw [nat_join 1 (x - 1) 1 (by omega) (by decide)]; omega
    rw [e, Nat.or_assoc, Nat.or_self]
  · rw [if_neg h, nat_join 1 x 1 (by omega) (by decide)]
theorem Sec.odd_le (q : Nat) (h : 0 < q) : (q - 1) ||| 1 ≤ q ∧ 1 ≤ (q - 1) ||| 1 := by
  rw [Sec.or_one]
  split <;> omega
theorem Sec.odd_mul (n p : Nat) (h : 0 < n / 2 ^ p) : ((n / 2 ^ p - 1) ||| 1) * 2 ^ p ≤ n ∧ 1 ≤ ((n / 2 ^ p - 1) ||| 1) * 2 ^ p := by
  obtain ⟨h1, h2⟩ := Sec.odd_le _ h
  have h3 := Nat.div_mul_le_self n (2 ^ p)
  have h4 : 1 ≤ 2 ^ p := Nat.one_le_two_pow
  generalize 2 ^ p = t at *
  generalize (n / t - 1) ||| 1 = o at *
  refine ⟨Nat.le_trans (Nat.mul_le_mul_right t h1) h3, ?_⟩
  exact Nat.le_trans (by omega) (Nat.mul_le_mul h2 h4)
theorem or64_1 {y : Nat} (hy : y < 4294967296) {W : World} : (binOp .or 2 (.int .i64 (y : Int)) (.int .i64 1)).run Tryd.prog W = .ok (.int .i64 ((y ||| 1 : Nat) : Int)) W := by
  have h' : (binOp .or 2 (.int .i64 (y : Int)) (.int .i64 1)).run Tryd.prog W = .ok (.int .i64 (bits .or .i64 (y : Int) 1)) W := by kernel_rfl
  have e : bits .or .i64 (y : Int) 1 = ((y ||| 1 : Nat) : Int) := by
    show IntKind.i64.wrap ((BitVec.ofInt 64 (y : Int) ||| BitVec.ofInt 64 ((1 : Nat) : Int)).toNat : Int) = _
    rw [BitVec.toNat_or, ofInt_u64 _ (by omega), ofInt_u64 _ (by decide)]
    exact Lib.wrap_i64_small _ (by rw [Sec.or_one]; split <;> omega)
  rw [h', e]
theorem last_any (n : Int) (w : World) : Calls Tryd.prog 40 #[.int .i64 n] w fun e w' => e = .returned (.func (.func 65) #[] #[.pointer (some ⟨w.heap.size, 0, none⟩)]) ∧ w' = w.alloc (.cells #[.int .i64 n] 2) := by
  have hmf : ∀ (fn : Fn) (first cap : Array Value) (w : World), (Instr.makeFunc fn first cap).run Tryd.prog w = .ok (.func fn first cap) w := fun _ _ _ _ => rfl
  go_enter Tryd.func40, Tryd.ntmps40
  go_wp2
  go_ret
  exact ⟨rfl, rfl⟩
set_option maxHeartbeats 2000000 in
theorem lastFn_any (n p q : Nat) (w : World) (hn : n ≤ 2147483648) (hp : p ≤ 32) (h0 : 0 < n / 2 ^ p) (hq : w.cell? ⟨q, 0, none⟩ = some (.int .i64 (n : Int))) :
    Calls Tryd.prog 65 #[.int .i64 (p : Int), .pointer (some ⟨q, 0, none⟩)] w fun e w' => w' = w ∧ e = .returned (.int .i64 (Sec.ixOf n p : Int)) := by
  obtain ⟨h1, h2⟩ := Sec.odd_mul n p h0
  have hix : Sec.ixOf n p = 2147483647 - (((n / 2 ^ p - 1) ||| 1) * 2 ^ p - 1) := by unfold Sec.ixOf; omega
  have hd : n / 2 ^ p ≤ n := Nat.div_le_self _ _
  have HIX := Lib.hid hix
  clear hix
  have hq1 := fun W => sub64 (x := n / 2 ^ p) (y := 1) (W := W) (by omega) (by omega)
  have hor := fun W => or64_1 (y := n / 2 ^ p - 1) (W := W) (by omega)
  have hsh := fun W => shl64 (x := (n / 2 ^ p - 1) ||| 1) (k := p) (W := W) (by omega) (by omega)
  have hs1 := fun W => sub64 (x := ((n / 2 ^ p - 1) ||| 1) * 2 ^ p) (y := 1) (W := W) (by omega) (by omega)
  have hs2 := fun W => sub64 (x := 2147483647) (y := ((n / 2 ^ p - 1) ||| 1) * 2 ^ p - 1) (W := W) (by omega) (by omega)
  have hs0 := fun W => shr64 (x := n) (k := p) (W := W) (by omega)
  generalize n / 2 ^ p = d at *
  generalize (d - 1) ||| 1 = o at *
  generalize o * 2 ^ p = m at *
  have H1 := Lib.hid hq1
  have H2 := Lib.hid hor
  have H3 := Lib.hid hsh
  have H4 := Lib.hid hs1
  have H5 := Lib.hid hs2
  have H6 := Lib.hid hs0
  clear hq1 hor hsh hs1 hs2 hs0 h1 h2 h0 hd
  go_enter Tryd.func65, Tryd.ntmps65
  go_wp2_with (first
    | (guard_target =~ wpList _ _ _ (_ :: _) _ _; refine wpList_binop rfl .shr 2 3 (.tmp 5) (.tmp 6) rfl (.int .i64 (n : Int)) (.int .i64 (p : Int)) rfl rfl (eqg_any rfl) (H6.out _) ?_)
    | (guard_target =~ wpList _ _ _ (_ :: _) _ _; refine wpList_binop rfl .sub 2 2 (.tmp 7) (.const (.int .i64 1)) rfl (.int .i64 (d : Int)) (.int .i64 ((1 : Nat) : Int)) rfl rfl (eqg_any rfl) (H1.out _) ?_)
    | (guard_target =~ wpList _ _ _ (_ :: _) _ _; refine wpList_binop rfl .or 2 2 (.tmp 8) (.const (.int .i64 1)) rfl (.int .i64 ((d - 1 : Nat) : Int)) (.int .i64 1) rfl rfl (eqg_any rfl) (H2.out _) ?_)
    | (guard_target =~ wpList _ _ _ (_ :: _) _ _; refine wpList_binop rfl .shl 2 3 (.tmp 10) (.tmp 11) rfl (.int .i64 (o : Int)) (.int .i64 (p : Int)) rfl rfl (eqg_any rfl) (H3.out _) ?_)
    | (guard_target =~ wpList _ _ _ (_ :: _) _ _; refine wpList_binop rfl .sub 2 2 (.tmp 12) (.const (.int .i64 1)) rfl (.int .i64 (m : Int)) (.int .i64 ((1 : Nat) : Int)) rfl rfl (eqg_any rfl) (H4.out _) ?_)
    | (guard_target =~ wpList _ _ _ (_ :: _) _ _; refine wpList_binop rfl .sub 2 2 (.const (.int .i64 2147483647)) (.tmp 13) rfl (.int .i64 ((2147483647 : Nat) : Int)) (.int .i64 ((m - 1 : Nat) : Int)) rfl rfl (eqg_any rfl) (H5.out _) ?_)
    | fail)
  go_ret
  exact ⟨rfl, by rw [HIX.out]; rfl⟩
/- plainly -/
def Sec.wid (n : Nat) : Nat → Nat → Nat
  | 0, p => p
  | f + 1, p => if Sec.hasB n p = true then Sec.wid n f (p + 1) else p
/-- How many places have something, of so many put. -/
def Sec.width (n : Nat) : Nat := Sec.wid n 32 0
theorem Sec.wid_spec (n : Nat) : ∀ f p, p ≤ Sec.wid n f p ∧ Sec.wid n f p ≤ p + f ∧ (∀ k, p ≤ k → k < Sec.wid n f p → Sec.hasB n k = true) ∧ (Sec.wid n f p < p + f → Sec.hasB n (Sec.wid n f p) = false)
  | 0, p => ⟨Nat.le_refl _, Nat.le_refl _, fun k h1 h2 => by unfold Sec.wid at h2; omega, fun h => by unfold Sec.wid at h; omega⟩
  | f + 1, p => by
    unfold Sec.wid
    by_cases h : Sec.hasB n p = true
    · rw [if_pos h]
      obtain ⟨h1, h2, h3, h4⟩ := Sec.wid_spec n f (p + 1)
      refine ⟨by omega, by omega, fun k hk hk2 => ?_, fun hlt => h4 (by omega)⟩
      by_cases e : k = p
      · rw [e]; exact h
      · exact h3 k (by omega) hk2
    · rw [if_neg h]
      exact ⟨Nat.le_refl _, by omega, fun k h1 h2 => by omega, fun _ => not_true h⟩
theorem Sec.width_le (n : Nat) : Sec.width n ≤ 32 := by have := (Sec.wid_spec n 32 0).2.1; unfold Sec.width; omega
theorem Sec.width_has {n k : Nat} (h : k < Sec.width n) : Sec.hasB n k = true := (Sec.wid_spec n 32 0).2.2.1 k (by omega) h
theorem Sec.has_mono {n p q : Nat} (hpq : p ≤ q) (h : Sec.hasB n q = true) : Sec.hasB n p = true := by
  unfold Sec.hasB at *
  rw [decide_eq_true_eq] at *
  exact Nat.lt_of_lt_of_le h (Nat.div_le_div_left (Nat.pow_le_pow_right (by decide) hpq) (Nat.two_pow_pos p))
theorem Sec.has_width {n k : Nat} (hn : n ≤ 2147483648) (h : Sec.hasB n k = true) : k < Sec.width n := by
  rcases Nat.lt_or_ge k (Sec.width n) with h1 | h1
  · exact h1
  · exfalso
    have h2 := Sec.has_mono h1 h
    rcases Nat.lt_or_ge (Sec.width n) 32 with h3 | h3
    · have h4 := (Sec.wid_spec n 32 0).2.2.2 (by unfold Sec.width at h3; omega)
      unfold Sec.width at h2
      rw [h2] at h4
      cases h4
    · have h5 := Sec.has_mono h3 h2
      unfold Sec.hasB at h5
      rw [decide_eq_true_eq] at h5
      omega
/-- What k places of the bytes tell. -/
def Sec.ixK (n k p : Nat) : Nat := if p < k then Sec.ixOf n p else 0
def Sec.scK (l : List UInt8) (k p : Nat) : List UInt8 := if p < k then (l.drop (32 * p)).take 32 else Sha.zeros 32
theorem Sec.ixK_succ (n k : Nat) : updF (Sec.ixK n k) k (Sec.ixOf n k) = Sec.ixK n (k + 1) := by
  funext p
  unfold updF Sec.ixK
  by_cases h : p = k
  · rw [if_pos h, if_pos (by omega), h]
  · rw [if_neg h]
    by_cases h2 : p < k
    · rw [if_pos h2, if_pos (by omega)]
    · rw [if_neg h2, if_neg (by omega)]
theorem Sec.scK_succ (l : List UInt8) (k : Nat) : updF (Sec.scK l k) k ((l.drop (32 * k)).take 32) = Sec.scK l (k + 1) := by
  funext p
  unfold updF Sec.scK
  by_cases h : p = k
  · rw [if_pos h, if_pos (by omega), h]
  · rw [if_neg h]
    by_cases h2 : p < k
    · rw [if_pos h2, if_pos (by omega)]
    · rw [if_neg h2, if_neg (by omega)]
theorem Sec.scK_len (l : List UInt8) (k p : Nat) (h : 32 * k ≤ l.length) : (Sec.scK l k p).length = 32 := by
  unfold Sec.scK
  split
  · rw [List.length_take, List.length_drop]; omega
  · simp [Sha.zeros]
theorem Sec.ixOf_lt (n p : Nat) (h : 0 < n / 2 ^ p) : Sec.ixOf n p < 2147483648 := by
  have := (Sec.odd_mul n p h).2
  unfold Sec.ixOf
  omega
theorem Sec.ixK_lt (n k p : Nat) (h : k ≤ Sec.width n) : Sec.ixK n k p < 2147483648 := by
  unfold Sec.ixK
  split
  · rename_i hp
    have := Sec.width_has (Nat.lt_of_lt_of_le hp h)
    unfold Sec.hasB at this
    exact Sec.ixOf_lt n p (by simpa using this)
  · decide
/-- The keep of bytes. -/
def Sec.readN (b : List UInt8) : Nat := (Wr.numR b false 2147483648).2.1.toNat
def Sec.readL (b : List UInt8) : List UInt8 := (Wr.numR b false 2147483648).1.1
def Sec.fitsK (n : Nat) (l : List UInt8) (p : Nat) : Bool := !Sec.hasB n p || Sec.fitB (Sec.ixK n (Sec.width n)) (Sec.scK l (Sec.width n)) p p
def Sec.fitsTo (n : Nat) (l : List UInt8) (k : Nat) : Bool := (List.range k).all (Sec.fitsK n l)
theorem Sec.fitsTo_succ (n : Nat) (l : List UInt8) (k : Nat) : Sec.fitsTo n l (k + 1) = (Sec.fitsTo n l k && Sec.fitsK n l k) := by
  unfold Sec.fitsTo
  rw [List.range_succ, List.all_append]
  simp
theorem Sec.fitsTo_no {n : Nat} {l : List UInt8} {p k : Nat} (hp : p < k) (h : Sec.fitsK n l p = false) : Sec.fitsTo n l k = false := by
  unfold Sec.fitsTo
  rw [List.all_eq_false]
  exact ⟨p, List.mem_range.2 hp, by rw [h]; decide⟩
def Sec.readOk (b : List UInt8) : Bool := decide ((Wr.numR b false 2147483648).2.2 = 0) && decide ((Sec.readL b).length = 32 * Sec.width (Sec.readN b)) && Sec.fitsTo (Sec.readN b) (Sec.readL b) 32
theorem Sec.numR_cases (b : List UInt8) : ((Wr.numR b false 2147483648).2.2 = 0 ∧ (Wr.numR b false 2147483648).1.2 = false ∧ (Wr.numR b false 2147483648).2.1 = (Sec.readN b : Int) ∧ Sec.readN b ≤ 2147483648) ∨ ((Wr.numR b false 2147483648).2.2 = 140) := by
  unfold Sec.readN
  unfold Wr.numR
  rw [if_neg (by decide), if_neg (by decide)]
  by_cases h : Wr.may b 2147483648
  · rw [if_pos h]
    have h2 := h.2
    exact .inl ⟨rfl, rfl, by simp, by simp; omega⟩
  · rw [if_neg h]; exact .inr rfl
end Go.Proofs.YthabgfghogdkcaaDoor
