/- Route: texts of digits (plain), and operations on texts. -/
import Derived.Test.YtloiaaolnfimgaaGreatRk3
set_option linter.unusedVariables false
set_option linter.unusedSimpArgs false
namespace Go.Proofs.YtloiaaolnfimgaaGreat
open Go.RowKit Rt
theorem ba_take (l : List UInt8) (k : Nat) : (⟨l.toArray⟩ : ByteArray).extract 0 k = ⟨(l.take k).toArray⟩ := by
  apply ByteArray.ext
  simp [ByteArray.data_extract]
theorem ba_drop (l : List UInt8) (k : Nat) : (⟨l.toArray⟩ : ByteArray).extract k l.length = ⟨(l.drop k).toArray⟩ := by
  apply ByteArray.ext
  simp [ByteArray.data_extract]
  rw [List.take_of_length_le (by simp)]
theorem ba_app (a b : List UInt8) : (⟨a.toArray⟩ ++ ⟨b.toArray⟩ : ByteArray) = ⟨(a ++ b).toArray⟩ := by
  apply ByteArray.ext
  simp
theorem run_str_to (l : List UInt8) (k : Nat) (h : k ≤ l.length) (hl : l.length ≤ 1000000) (w : World) : (Instr.slice 9 (.string ⟨l.toArray⟩) none (some (.int .i64 (k : Int))) none).run Tryz.prog w = .ok (.string ⟨(l.take k).toArray⟩) w := by
  have h1 : (k : Int) ≤ (l.length : Int) := by omega
  have h2 : (0 : Int) ≤ (k : Int) := by omega
  have h3 := ba_take l k
  go_simp
theorem run_str_from (l : List UInt8) (k : Nat) (h : k ≤ l.length) (hl : l.length ≤ 1000000) (w : World) : (Instr.slice 9 (.string ⟨l.toArray⟩) (some (.int .i64 (k : Int))) none none).run Tryz.prog w = .ok (.string ⟨(l.drop k).toArray⟩) w := by
  have h1 : (k : Int) ≤ (l.length : Int) := by omega
  have h2 : (0 : Int) ≤ (k : Int) := by omega
  have h3 := ba_drop l k
  go_simp
theorem run_str_add (a b : List UInt8) (h : a.length + b.length ≤ 1000000) (w : World) : (binOp .add 9 (.string ⟨a.toArray⟩) (.string ⟨b.toArray⟩)).run Tryz.prog w = .ok (.string ⟨(a ++ b).toArray⟩) w := by
  have h1 : ¬ 9223372036854775807 < a.length + b.length := by omega
  have h2 := ba_app a b
  go_simp
theorem dig_sign (n : Nat) (h : n < 16) : dig (signB n) = (n : Int) := by
  have : ∀ n : Fin 16, dig (signB n.val) = (n.val : Int) := by decide +kernel
  exact this ⟨n, h⟩
theorem sign_dig (c : UInt8) (h : 0 ≤ dig c) : signB (dig c).toNat = c := by
  have : ∀ n : Fin 256, 0 ≤ dig (UInt8.ofNat n.val) → signB (dig (UInt8.ofNat n.val)).toNat = UInt8.ofNat n.val := by decide +kernel
  have h2 := this ⟨c.toNat, c.toNat_lt⟩
  simp only [UInt8.ofNat_toNat] at h2
  exact h2 h
def dg2 (l : List UInt8) (i : Nat) : Nat := (dig (l.getD i 0)).toNat
theorem dg2_lt (l : List UInt8) (i : Nat) : dg2 l i < 16 := by
  have := dig_bd (l.getD i 0)
  unfold dg2
  omega
def byteAt2 (l : List UInt8) (j : Nat) : UInt8 := UInt8.ofNat (dg2 l (2 * j) * 16 + dg2 l (2 * j + 1))
theorem byteAt2_nat (l : List UInt8) (j : Nat) : (byteAt2 l j).toNat = dg2 l (2 * j) * 16 + dg2 l (2 * j + 1) := by
  have h1 := dg2_lt l (2 * j)
  have h2 := dg2_lt l (2 * j + 1)
  unfold byteAt2
  rw [UInt8.toNat_ofNat']
  omega
theorem getD_mid (a b : List UInt8) (v : UInt8) (k : Nat) (h : a.length = k) : (a ++ (v :: b)).getD k 0 = v := by
  subst h
  simp [List.getD]
theorem flatMap_eq {f g : Nat → List UInt8} : ∀ {l : List Nat}, (∀ a ∈ l, f a = g a) → l.flatMap f = l.flatMap g
  | [], _ => rfl
  | a :: l, h => by rw [List.flatMap_cons, List.flatMap_cons, h a (by simp), flatMap_eq (fun b hb => h b (by simp [hb]))]
theorem hp_two (l : List UInt8) : ∀ k, k ≤ 32 → hp l (2 * k) = (List.range k).map (byteAt2 l) ++ Sha.zeros (32 - k)
  | 0, _ => by simp [hp]
  | k + 1, h => by
    have ih := hp_two l k (by omega)
    have hz : Sha.zeros (32 - k) = 0 :: Sha.zeros (32 - (k + 1)) := by
      unfold Sha.zeros
      rw [show 32 - k = (32 - (k + 1)) + 1 from by omega, List.replicate_succ]
    have hlen : ((List.range k).map (byteAt2 l)).length = k := by simp
    have e1 : hp l (2 * k + 1) = (List.range k).map (byteAt2 l) ++ (UInt8.ofNat (dg2 l (2 * k)) :: Sha.zeros (32 - (k + 1))) := by
      rw [hp, ih, hz, show 2 * k / 2 = k from by omega]
      rw [List.set_append_right _ _ (by rw [hlen]; exact Nat.le_refl _), hlen, Nat.sub_self, List.set_cons_zero]
      congr 2
      rw [getD_mid _ _ _ _ hlen]
      simp [newb, dg2]
    rw [show 2 * (k + 1) = (2 * k + 1) + 1 from by omega, hp, e1, show (2 * k + 1) / 2 = k from by omega]
    rw [List.set_append_right _ _ (by rw [hlen]; exact Nat.le_refl _), hlen, Nat.sub_self, List.set_cons_zero, List.range_succ, List.map_append, List.append_assoc]
    congr 1
    simp only [List.map_cons, List.map_nil, List.cons_append, List.nil_append]
    congr 1
    rw [getD_mid _ _ _ _ hlen]
    have h1 := dg2_lt l (2 * k)
    simp only [newb, byteAt2]
    congr 1
    rw [UInt8.toNat_ofNat', show dig (l.getD (2 * k + 1) 0) = dig (l.getD (2 * k + 1) 0) from rfl]
    unfold dg2 at *
    omega
theorem hp_all (l : List UInt8) : hp l 64 = (List.range 32).map (byteAt2 l) := by
  have := hp_two l 32 (Nat.le_refl _)
  rw [show 2 * 32 = 64 from rfl] at this
  rw [this]
  simp [Sha.zeros]
namespace Rt
/-- The bytes of a text of digits. -/
def unhex : List UInt8 → List UInt8
  | a :: b :: r => UInt8.ofNat ((dig a).toNat * 16 + (dig b).toNat) :: unhex r
  | _ => []
def hexOk (l : List UInt8) : Bool := l.all fun c => decide (0 ≤ dig c)
theorem unhex_len : ∀ l : List UInt8, (unhex l).length = l.length / 2
  | [] => rfl
  | [_] => by simp [unhex]
  | a :: b :: r => by rw [unhex, List.length_cons, unhex_len r]; simp; omega
theorem unhex_app : ∀ (a b : List UInt8), a.length % 2 = 0 → unhex (a ++ b) = unhex a ++ unhex b
  | [], _, _ => rfl
  | [_], _, h => by simp at h
  | x :: y :: r, b, h => by
    have ih := unhex_app r b (by simp at h; omega)
    show UInt8.ofNat _ :: unhex (r ++ b) = _
    rw [ih]
    rfl
theorem unhex_at : ∀ (l : List UInt8) (k : Nat), 2 * k + 1 < l.length → (unhex l)[k]? = some (byteAt2 l k)
  | [], _, h => by simp at h
  | [_], _, h => by simp at h
  | x :: y :: r, 0, _ => rfl
  | x :: y :: r, k + 1, h => by
    have ih := unhex_at r k (by simp at h; omega)
    show (unhex r)[k]? = _
    rw [ih]
    unfold byteAt2 dg2
    rw [show 2 * (k + 1) = 2 * k + 1 + 1 by omega, show 2 * k + 1 + 1 + 1 = 2 * k + 1 + 1 + 1 from rfl]
    rfl
theorem hp_unhex {t : List UInt8} (h : t.length = 64) : hp t 64 = unhex t := by
  rw [hp_all]
  apply List.ext_getElem?
  intro k
  by_cases hk : k < 32
  · rw [unhex_at t k (by omega), List.getElem?_map, List.getElem?_range hk]
    rfl
  · rw [List.getElem?_eq_none (by simp; omega), List.getElem?_eq_none (by rw [unhex_len]; omega)]
theorem dig_zero : dig 48 = 0 := by decide +kernel
theorem hash_iff (s : List UInt8) (h : s.length ≤ 64) : isHash (s ++ List.replicate (64 - s.length) 48) ↔ hexOk s = true := by
  have hl : (s ++ List.replicate (64 - s.length) (48 : UInt8)).length = 64 := by simp; omega
  unfold isHash digsTo hexOk
  rw [List.all_eq_true]
  constructor
  · rintro ⟨_, h2⟩ c hc
    obtain ⟨i, hi, rfl⟩ := List.getElem_of_mem hc
    have := h2 i (by omega)
    rw [List.getD_eq_getElem?_getD, List.getElem?_append_left hi, List.getElem?_eq_getElem hi] at this
    simpa using this
  · intro h1
    refine ⟨hl, fun i hi => ?_⟩
    rw [List.getD_eq_getElem?_getD]
    by_cases hs : i < s.length
    · rw [List.getElem?_append_left hs, List.getElem?_eq_getElem hs]
      have := h1 _ (List.getElem_mem hs)
      simpa using this
    · rw [List.getElem?_append_right (by omega), List.getElem?_replicate]
      rw [if_pos (by omega)]
      simp [dig_zero]
theorem hp_take (s : List UInt8) (h : s.length ≤ 64) (h2 : s.length % 2 = 0) : (hp (s ++ List.replicate (64 - s.length) 48) 64).take (s.length / 2) = unhex s := by
  rw [hp_unhex (by simp; omega), unhex_app _ _ h2, List.take_left' (unhex_len s)]
end Rt
end Go.Proofs.YtloiaaolnfimgaaGreat
