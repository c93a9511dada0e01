/- Hashes as values and as rows: small laws (as in the sha seat's texts; left out where those are there). -/
import Derived.Test.YtmipaacobioakaaWr9
import Derived.Stop.BytesEq
set_option linter.unusedVariables false
set_option linter.unusedSimpArgs false
namespace Go.Proofs.Ytmipaacobioakaa
open Go.RowKit
def Sha.zeros (n : Nat) : List UInt8 := List.replicate n 0
theorem setFrom_mid (pre mid post vs : List Value) (o : Nat) (ho : pre.length = o) (h : vs.length = mid.length) : setFrom (pre ++ (mid ++ post)).toArray o vs = (pre ++ (vs ++ post)).toArray := by
  subst ho
  apply Array.ext_getElem?
  intro i
  rw [setFrom_get _ _ _ _ (by simp; omega), List.getElem?_toArray, List.getElem?_toArray]
  by_cases h1 : i < pre.length
  · rw [if_neg (by omega), List.getElem?_append_left h1, List.getElem?_append_left h1]
  · have hl : ∀ m : List Value, (pre ++ (m ++ post))[i]? = (m ++ post)[i - pre.length]? := fun m => List.getElem?_append_right (by omega)
    rw [hl mid, hl vs]
    by_cases h2 : i < pre.length + vs.length
    · rw [if_pos (by omega), List.getElem?_append_left (by omega)]
    · rw [if_neg (by omega), List.getElem?_append_right (l₁ := vs) (by omega), List.getElem?_append_right (l₁ := mid) (by omega), h]
def hC (b : List UInt8) : Array Value := ((b ++ Sha.zeros (32 - b.length)).map byteV).toArray
theorem hC_copy (b d : List UInt8) (h : b.length + d.length ≤ 32) : setFrom (hC b) b.length (d.map byteV) = hC (b ++ d) := by
  have := setFrom_mid (b.map byteV) ((Sha.zeros d.length).map byteV) ((Sha.zeros (32 - b.length - d.length)).map byteV) (d.map byteV) b.length (by simp) (by simp [Sha.zeros])
  unfold hC
  rw [show Sha.zeros (32 - b.length) = Sha.zeros d.length ++ Sha.zeros (32 - b.length - d.length) from by unfold Sha.zeros; rw [List.replicate_append_replicate]; congr 1; omega]
  simp only [List.map_append, List.append_assoc, List.length_append] at this ⊢
  rw [this, show 32 - (b.length + d.length) = 32 - b.length - d.length from by omega]
theorem hC_size (b : List UInt8) (h : b.length ≤ 32) : (hC b).size = 32 := by simp [hC, Sha.zeros]; omega
theorem info5 : (Try.prog.info? 5).map (fun i => (i.zero, i.size, i.bytes)) = some (some (.int .u8 0), 1, 1) := by kernel_rfl
theorem infoH : (Try.prog.info? 53).map (·.size) = some 32 := by kernel_rfl
theorem allocH (w : World) : (Instr.alloc 53 true (.tuple #[])).run Try.prog w = .ok (.pointer (some ⟨w.heap.size, 0, none⟩)) (w.alloc (.cells (hC []) 53)) := by kernel_rfl
theorem boxH (h : List UInt8) (hl : h.length = 32) (w : World) : (Instr.box 53 (.agg (hC h))).run Try.prog w = .ok (.pointer (some ⟨w.heap.size, 0, none⟩)) (w.alloc (.cells (hC h) 53)) := by
  have hs := hC_size h (by omega)
  go_simp
theorem boxHat (h : List UInt8) (hl : h.length = 32) (w : World) : (Instr.box 53 (.agg (hC h))).run Try.prog w = .ok (.pointer (some ⟨w.heap.size, 0, none⟩)) (w.alloc (.cells (hC h) 53)) := boxH h hl w
theorem idxHash {cs : Array Value} {k : Nat} {v : Value} {W : World} (hk : k < 32) (h : cs[k]? = some v) : (Instr.index 53 (.agg cs) (.int .i64 (k : Int))).run Try.prog W = .ok v W := by
  have h1 : (k : Int) < 32 := by omega
  have h2 : (0 : Int) ≤ (k : Int) := by omega
  obtain ⟨i, hi0, hz, hs, hb⟩ := info_parts info5
  simp [Instr.index, run_underlying Try.underlying53, asIntOf, h1, h2, sizeOf, typeInfo, hi0, hs]
  rw [if_pos hk]
  have h' : cs[k]?.getD undef = v := by rw [h]; rfl
  simp [part, go_sem, sizeOf, typeInfo, hi0, hs, h, h']
theorem hC_get (h : List UInt8) (k : Nat) (hk : k < h.length) (hl : h.length ≤ 32) : (hC h)[k]? = some (.int .u8 ((h[k]).toNat : Int)) := by
  unfold hC
  rw [List.getElem?_toArray, List.getElem?_map, List.getElem?_append_left hk, List.getElem?_eq_getElem hk]
  rfl
theorem loadH {w : World} {g : Nat} {h : List UInt8} (hl : h.length = 32) (hr : Row w g 53 (hC h)) : (Instr.loadAt 53 (.pointer (some ⟨g, 0, none⟩))).run Try.prog w = .ok (.agg (hC h)) w := by
  have := run_loadAt_mid (P := Try.prog) w g 0 53 (hC h).toList _ (hr.range 0 _ fun j v hv => by rw [Nat.zero_add, ← Array.getElem?_toList]; exact hv) Try.underlying53 rfl (by rw [Array.length_toList, hC_size h (by omega)]; exact infoH)
  rwa [Array.toArray_toList] at this
theorem hC_one (b : List UInt8) : (hC b).all (·.oneCell') = true := by
  rw [Array.all_eq_true_iff_forall_mem]
  intro v hv
  unfold hC at hv
  rw [List.mem_toArray] at hv
  obtain ⟨i, hi, rfl⟩ := List.mem_map.1 hv; rfl
theorem storeH {w : World} {g : Nat} {a b : List UInt8} (ha : a.length ≤ 32) (hb : b.length ≤ 32) (hr : Row w g 53 (hC a)) : ∃ w', (Instr.storeAt 53 (.pointer (some ⟨g, 0, none⟩)) (.agg (hC b))).run Try.prog w = .ok () w' ∧ Row w' g 53 (hC b) ∧ w.grownBy w' (some g) := by
  have h1 := hC_size a ha
  have h2 := hC_size b hb
  refine ⟨_, run_store_row hr (hC b) (by rw [h2]; exact infoH) (by rw [h1, h2]; omega) (hC_one _), ?_, grown_setCells _ _ _⟩
  have hr2 := row_setCells (hC b).toList 0 w _ hr
  rw [setFrom_whole _ _ (by rw [Array.length_toList, h1, h2]), Array.toArray_toList] at hr2
  exact hr2
theorem rd_hash {w : World} {g : Nat} {h : List UInt8} {t : TypeId} (hl : h.length = 32) (hr : Row w g t (hC h)) : Rd w (some ⟨g, 0, none⟩) h := fun _ =>
  ⟨_, _, rfl, fun i hi => by
    rw [hr.cell, Nat.zero_add]
    exact hC_get h i hi (by omega)⟩
theorem sliceHash {g : Nat} (W : World) : (Instr.sliceAt 53 (.pointer (some ⟨g, 0, none⟩)) none none none).run Try.prog W = .ok (.slice (some ⟨g, 0, none⟩) 32 32) W := by
  obtain ⟨i, hi0, hz, hs, hb⟩ := info_parts info5
  simp [Instr.sliceAt, run_underlying Try.underlying53, sizeOf, typeInfo, hi0, hs, go_sem]
theorem hC_full (h : List UInt8) (hl : h.length = 32) : hC h = (h.map byteV).toArray := by
  unfold hC
  simp [Sha.zeros, hl]
theorem hC_cells (B : List UInt8) (h : B.length = 32) : hC B = (B.map Extern.Stop.cell).toArray := by
  unfold hC
  simp [Sha.zeros, h]
  intro a _
  rfl
theorem eqlHash (a b : List UInt8) (ha : a.length = 32) (hb : b.length = 32) (w : World) : (binOp .eql 53 (.agg (hC a)) (.agg (hC b))).run Try.prog w = .ok (.bool (a == b)) w := by
  rw [run_eql_struct, hC_cells a ha, hC_cells b hb, run_equalIn_bytes w 9998 53 5 32 Try.underlying53 Try.underlying5 (fun w => by kernel_rfl) a b ha hb]
  simp
theorem neqHash (a b : List UInt8) (ha : a.length = 32) (hb : b.length = 32) (w : World) : (binOp .neq 53 (.agg (hC a)) (.agg (hC b))).run Try.prog w = .ok (.bool (!(a == b))) w := by
  rw [run_neq_struct, hC_cells a ha, hC_cells b hb, run_equalIn_bytes w 9998 53 5 32 Try.underlying53 Try.underlying5 (fun w => by kernel_rfl) a b ha hb]
  simp
theorem eqlSame (a : List UInt8) (ha : a.length = 32) (w : World) : (binOp .eql 53 (.agg (hC a)) (.agg (hC a))).run Try.prog w = .ok (.bool true) w := by rw [eqlHash a a ha ha, beq_self_eq_true]
end Go.Proofs.Ytmipaacobioakaa
