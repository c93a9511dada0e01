/- Walks: the hash of a text. -/
import Derived.Test.YtfconncnccgenaaShaT2
set_option linter.unusedVariables false
set_option linter.unusedSimpArgs false
namespace Go.Proofs.Ytfconncnccgenaa
open Go.RowKit
theorem results_cell_tmp {P : Program} {fn : Func} {p q : Tmp} {ty : TypeId} (h : fn.results = #[.cell p ty, .tmp q]) (tmps : Array Value) (w : World) (g : Nat) (t : TypeId) (cs : Array Value) (fr : Nat × Nat) (d : TypeDesc) (v : Value)
    (hp : tmps.getD p undef = .pointer (some ⟨g, 0, none⟩)) (hq : tmps.getD q undef = v) (hg : w.heap[g]? = some (.cells cs t fr))
    (hu : P.underlying ty = some d) (hd : (match d with | .struct _ | .array _ _ => true | _ => false) = true) (hi : (P.info? ty).map (·.size) = some cs.size) :
    (results fn tmps).run P w = .ok (.tuple #[.agg cs, v]) w := by
  have hp' : tmps[p]?.getD undef = .pointer (some ⟨g, 0, none⟩) := by simpa using hp
  have hq' : tmps[q]?.getD undef = v := by simpa using hq
  simp [results, h, hp', hq', asAddr, run_loadVar_row w g t ty cs fr d hg hu hd hi]
/- digits -/
def signsL : List UInt8 := [48, 49, 50, 51, 52, 53, 54, 55, 56, 57, 97, 98, 99, 100, 101, 102]
def dig (c : UInt8) : Int := Lib.indexByte signsL c
theorem dig_bd (c : UInt8) : -1 ≤ dig c ∧ dig c ≤ 15 := by
  have h : ∀ n : Fin 256, (-1 ≤ dig (UInt8.ofNat n.val) ∧ dig (UInt8.ofNat n.val) ≤ 15) := by decide +kernel
  have := h ⟨c.toNat, c.toNat_lt⟩
  simpa using this
theorem idxByte_any (c : UInt8) (w : World) : Calls Try.prog 35 #[.string signs, .int .u8 (c.toNat : Int)] w fun e w' => e = .returned (.int .i64 (dig c)) ∧ w = w' := by
  refine (Try.strings_IndexByte signs (c.toNat : Int) w).mono ?_
  rintro e w' ⟨rfl, rfl⟩
  refine ⟨?_, rfl⟩
  have : ((c.toNat : Int)).toNat.toUInt8 = c := by simp
  rw [this]
  rfl
def newb (x : UInt8) (d : Nat) : UInt8 := UInt8.ofNat (x.toNat * 16 + d)
def hp (l : List UInt8) : Nat → List UInt8
  | 0 => Sha.zeros 32
  | i + 1 => (hp l i).set (i / 2) (newb ((hp l i).getD (i / 2) 0) (dig (l.getD i 0)).toNat)
theorem hp_len (l : List UInt8) (i : Nat) : (hp l i).length = 32 := by
  induction i with
  | zero => simp [hp, Sha.zeros]
  | succ i ih => rw [hp, List.length_set, ih]
/-- All are digits, up to a place. -/
def digsTo (l : List UInt8) (n : Nat) : Prop := ∀ i, i < n → 0 ≤ dig (l.getD i 0)
def isHash (l : List UInt8) : Prop := l.length = 64 ∧ digsTo l 64
theorem or_new (x : UInt8) (d : Nat) (hd : d < 16) : bits .or .u8 ((x.toNat : Int) * 16 % 256) (d : Int) = ((newb x d).toNat : Int) := by
  have hx := x.toNat_lt
  rw [show (x.toNat : Int) * 16 % 256 = ((x.toNat * 16 % 256 : Nat) : Int) from by omega, u8_or_nat _ _ (by omega) (by omega), nat_join 4 _ _ (by omega) (by omega)]
  unfold newb
  rw [UInt8.toNat_ofNat']
  omega
theorem hC_set (h : List UInt8) (i : Nat) (x : UInt8) (hl : h.length = 32) : (hC h).setIfInBounds i (byteV x) = hC (h.set i x) := by
  unfold hC
  rw [List.length_set, hl]
  simp only [Sha.zeros, Nat.sub_self, List.replicate_zero, List.append_nil]
  simp [List.map_set]
theorem buildH0 (w : World) : (Instr.build 26 #[]).run Try.prog w = .ok (.agg (hC [])) w := by kernel_rfl
theorem storeH {w : World} {g : Nat} {a b : List UInt8} (ha : a.length ≤ 32) (hb : b.length ≤ 32) (hr : Row w g 26 (hC a)) : ∃ w', (Instr.storeAt 26 (.pointer (some ⟨g, 0, none⟩)) (.agg (hC b))).run Try.prog w = .ok () w' ∧ Row w' g 26 (hC b) ∧ w.grownBy w' (some g) := by
  have h1 := hC_size a ha
  have h2 := hC_size b hb
  refine ⟨_, run_store_row hr (hC b) (by rw [h2]; exact infoH) (by rw [h1, h2]; omega) (hC_one _), ?_, grown_setCells _ _ _⟩
  have hr2 := row_setCells (hC b).toList 0 w _ hr
  rw [setFrom_whole _ _ (by rw [Array.length_toList, h1, h2]), Array.toArray_toList] at hr2
  exact hr2
end Go.Proofs.Ytfconncnccgenaa
