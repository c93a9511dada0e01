/- Route: steps and edges, and how they lie in memory. -/
import Derived.Test.YtloiaaolnfimgaaGreatRg
set_option linter.unusedVariables false
set_option linter.unusedSimpArgs false
namespace Go.Proofs.YtloiaaolnfimgaaGreat
open Go.RowKit
namespace Rt
structure Hop where
  key : List UInt8
  next : List UInt8
  amt : Int
  exp : Int
structure Edge where
  key : List UInt8
  chan : List UInt8
  base : Int
  rate : Int
  delta : Int
def zh : List UInt8 := Sha.zeros 32
def noHop : Hop := ⟨zh, zh, 0, 0⟩
def Hop.wf (h : Hop) : Prop := h.key.length = 32 ∧ h.next.length = 32
def Edge.wf (e : Edge) : Prop := e.key.length = 32 ∧ e.chan.length = 32
theorem zh_len : zh.length = 32 := by simp [zh, Sha.zeros]
theorem noHop_wf : noHop.wf := ⟨zh_len, zh_len⟩
theorem hC_nil : hC [] = hC zh := by kernel_rfl
def hopC (h : Hop) : Array Value := ((hC h.key).toList ++ (hC h.next).toList ++ [Value.int .i64 h.amt, Value.int .i64 h.exp]).toArray
def edgeC (e : Edge) : Array Value := ((hC e.key).toList ++ (hC e.chan).toList ++ [Value.int .i64 e.base, .int .i64 e.rate, .int .i64 e.delta]).toArray
abbrev hopL (h : Hop) : List Value := (hopC h).toList
abbrev edgeL (e : Edge) : List Value := (edgeC e).toList
theorem hopC_size {h : Hop} (hw : h.wf) : (hopC h).size = 66 := by
  have h1 := hC_size h.key (Nat.le_of_eq hw.1)
  have h2 := hC_size h.next (Nat.le_of_eq hw.2)
  simp [hopC, h1, h2]
theorem edgeC_size {e : Edge} (hw : e.wf) : (edgeC e).size = 67 := by
  have h1 := hC_size e.key (Nat.le_of_eq hw.1)
  have h2 := hC_size e.chan (Nat.le_of_eq hw.2)
  simp [edgeC, h1, h2]
theorem hopL_len {h : Hop} (hw : h.wf) : (hopL h).length = 66 := by rw [Array.length_toList, hopC_size hw]
theorem edgeL_len {e : Edge} (hw : e.wf) : (edgeL e).length = 67 := by rw [Array.length_toList, edgeC_size hw]
theorem hC_mem {b : List UInt8} {u : Value} (hu : u ∈ (hC b).toList) : u.oneCell' = true := Array.all_eq_true_iff_forall_mem.1 (hC_one b) u (Array.mem_toList_iff.1 hu)
theorem hopL_one (h : Hop) : ∀ u ∈ hopL h, u.oneCell' = true := fun u hu => by
  simp only [hopL, hopC, List.mem_append, List.mem_cons, List.not_mem_nil, or_false] at hu
  rcases hu with (hu | hu) | rfl | rfl
  · exact hC_mem hu
  · exact hC_mem hu
  · rfl
  · rfl
theorem edgeL_one (e : Edge) : ∀ u ∈ edgeL e, u.oneCell' = true := fun u hu => by
  simp only [edgeL, edgeC, List.mem_append, List.mem_cons, List.not_mem_nil, or_false] at hu
  rcases hu with (hu | hu) | rfl | rfl | rfl
  · exact hC_mem hu
  · exact hC_mem hu
  · rfl
  · rfl
  · rfl
theorem hopC_one (h : Hop) : (hopC h).all (·.oneCell') = true := Array.all_eq_true_iff_forall_mem.2 fun u hu => hopL_one h u (Array.mem_toList_iff.2 hu)
theorem edgeC_one (e : Edge) : (edgeC e).all (·.oneCell') = true := Array.all_eq_true_iff_forall_mem.2 fun u hu => edgeL_one e u (Array.mem_toList_iff.2 hu)
theorem hopC_key {h : Hop} (hw : h.wf) (i : Nat) (hi : i < 32) : (hopC h)[i]? = (hC h.key)[i]? := by
  have h1 := hC_size h.key (Nat.le_of_eq hw.1)
  have h2 := hC_size h.next (Nat.le_of_eq hw.2)
  unfold hopC
  rw [List.getElem?_toArray, List.append_assoc, List.getElem?_append_left (by simp [h1]; exact hi), Array.getElem?_toList]
theorem hopC_next {h : Hop} (hw : h.wf) (i : Nat) (hi : i < 32) : (hopC h)[32 + i]? = (hC h.next)[i]? := by
  have h1 := hC_size h.key (Nat.le_of_eq hw.1)
  have h2 := hC_size h.next (Nat.le_of_eq hw.2)
  unfold hopC
  rw [List.getElem?_toArray, List.append_assoc, List.getElem?_append_right (by simp [h1]), Array.length_toList, h1, show 32 + i - 32 = i by omega, List.getElem?_append_left (by simp [h2]; exact hi), Array.getElem?_toList]
theorem hopC_amt {h : Hop} (hw : h.wf) : (hopC h)[64]? = some (.int .i64 h.amt) := by
  have h1 := hC_size h.key (Nat.le_of_eq hw.1)
  have h2 := hC_size h.next (Nat.le_of_eq hw.2)
  unfold hopC
  rw [List.getElem?_toArray, List.getElem?_append_right (by simp [h1, h2])]
  simp [h1, h2]
theorem hopC_exp {h : Hop} (hw : h.wf) : (hopC h)[65]? = some (.int .i64 h.exp) := by
  have h1 := hC_size h.key (Nat.le_of_eq hw.1)
  have h2 := hC_size h.next (Nat.le_of_eq hw.2)
  unfold hopC
  rw [List.getElem?_toArray, List.getElem?_append_right (by simp [h1, h2])]
  simp [h1, h2]
theorem edgeC_key {e : Edge} (hw : e.wf) (i : Nat) (hi : i < 32) : (edgeC e)[i]? = (hC e.key)[i]? := by
  have h1 := hC_size e.key (Nat.le_of_eq hw.1)
  unfold edgeC
  rw [List.getElem?_toArray, List.append_assoc, List.getElem?_append_left (by simp [h1]; exact hi), Array.getElem?_toList]
theorem edgeC_chan {e : Edge} (hw : e.wf) (i : Nat) (hi : i < 32) : (edgeC e)[32 + i]? = (hC e.chan)[i]? := by
  have h1 := hC_size e.key (Nat.le_of_eq hw.1)
  have h2 := hC_size e.chan (Nat.le_of_eq hw.2)
  unfold edgeC
  rw [List.getElem?_toArray, List.append_assoc, List.getElem?_append_right (by simp [h1]), Array.length_toList, h1, show 32 + i - 32 = i by omega, List.getElem?_append_left (by simp [h2]; exact hi), Array.getElem?_toList]
theorem edgeC_num {e : Edge} (hw : e.wf) : (edgeC e)[64]? = some (.int .i64 e.base) ∧ (edgeC e)[65]? = some (.int .i64 e.rate) ∧ (edgeC e)[66]? = some (.int .i64 e.delta) := by
  have h1 := hC_size e.key (Nat.le_of_eq hw.1)
  have h2 := hC_size e.chan (Nat.le_of_eq hw.2)
  unfold edgeC
  refine ⟨?_, ?_, ?_⟩ <;> rw [List.getElem?_toArray, List.getElem?_append_right (by simp [h1, h2])] <;> simp [h1, h2]
/-- May an amount above 0, and an expiry, be? -/
def paid (a x : Int) : Bool := decide (1 ≤ a) && decide (a ≤ 1125899906842624) && (decide (1 ≤ x) && decide (x ≤ 2147483647))
end Rt
end Go.Proofs.YtloiaaolnfimgaaGreat
