/- A stream of short frames, cut; the contract of wire.Frames; texts in a slice. -/
import Derived.Test.YtmipaacobioakaaWr41
import Derived.Deep.Strs
set_option linter.unusedVariables false
set_option linter.unusedSimpArgs false
namespace Go.Proofs.Ytmipaacobioakaa
open Go.RowKit Go.ChangeShapes Go.WideShapes Go.ChangeAt
namespace Wr
theorem frame_short (t : List UInt8) (h : t.length ≤ 100) : frame t = UInt8.ofNat (t.length + 4) :: (t ++ low4 (Crc.sum t)) := by
  unfold frame bytes
  rw [if_pos (by omega)]
  rfl
theorem frame_len (t : List UInt8) (h : t.length ≤ 100) : (frame t).length = t.length + 5 := by
  rw [frame_short t h]
  simp [low4]
/-- Of a frame that was cut nothing is split off. -/
theorem split_cut (t : List UInt8) (h : t.length ≤ 100) (m : Nat) (hm : m < (frame t).length) : splitR ((frame t).take m) = ([], 0, 0) := by
  rw [frame_len t h] at hm
  rw [frame_short t h]
  cases m with
  | zero => rfl
  | succ m =>
    have h1 : (UInt8.ofNat (t.length + 4)).toNat = t.length + 4 := by rw [UInt8.toNat_ofNat']; omega
    have hmany : many (UInt8.ofNat (t.length + 4)) = 0 := by
      unfold many
      rw [if_neg (by intro e; rw [e] at h1; simp at h1; omega), if_neg (by intro e; rw [e] at h1; simp at h1; omega), if_neg (by intro e; rw [e] at h1; simp at h1; omega)]
    have hf : first ((UInt8.ofNat (t.length + 4) :: (t ++ low4 (Crc.sum t))).take (m + 1)) = (t.length + 4, 1) := by
      rw [List.take_succ_cons, first, if_pos hmany, h1]
    have hl : ((UInt8.ofNat (t.length + 4) :: (t ++ low4 (Crc.sum t))).take (m + 1)).length = m + 1 := by rw [List.length_take]; simp [low4]; omega
    unfold splitR
    rw [hf, hl]
    simp only
    rw [if_neg (by omega), if_neg (by omega), if_pos (by omega)]
/-- The frames' bytes; where so many of them end. -/
def fr (ts : List (List UInt8)) : List UInt8 := (ts.map frame).flatten
def endOf (ts : List (List UInt8)) (k : Nat) : Nat := (fr (ts.take k)).length
theorem fr_snoc (ts : List (List UInt8)) (i : Nat) (h : i < ts.length) : fr (ts.take (i + 1)) = fr (ts.take i) ++ frame ts[i] := by
  unfold fr
  rw [List.take_succ_eq_append_getElem h, List.map_append, List.flatten_append]
  simp
theorem endOf_succ (ts : List (List UInt8)) (i : Nat) (h : i < ts.length) : endOf ts (i + 1) = endOf ts i + (frame ts[i]).length := by
  unfold endOf
  rw [fr_snoc ts i h, List.length_append]
theorem endOf_le (ts : List (List UInt8)) (h100 : ∀ t ∈ ts, t.length ≤ 100) : ∀ k, k ≤ ts.length → endOf ts k ≤ 105 * k
  | 0, _ => by simp [endOf, fr]
  | k + 1, h => by
    have h1 := endOf_le ts h100 k (by omega)
    rw [endOf_succ ts k (by omega), frame_len _ (h100 _ (List.getElem_mem _))]
    have := h100 _ (List.getElem_mem (show k < ts.length by omega))
    omega
theorem fr_drop (ts : List (List UInt8)) (i : Nat) (h : i < ts.length) : fr (ts.drop i) = frame ts[i] ++ fr (ts.drop (i + 1)) := by
  unfold fr
  rw [List.drop_eq_getElem_cons h, List.map_cons, List.flatten_cons]
theorem step_at (ts : List (List UInt8)) (h100 : ∀ t ∈ ts, t.length ≤ 100) (m i : Nat) (h : i < ts.length) :
    splitR ((fr (ts.drop i)).take m) = if (frame ts[i]).length ≤ m then (ts[i], ((frame ts[i]).length : Int), 0) else ([], 0, 0) := by
  have hi := h100 _ (List.getElem_mem h)
  rw [fr_drop ts i h]
  split
  · rename_i hle
    rw [List.take_append, List.take_of_length_le hle]
    exact split_frame _ _ (by omega)
  · rename_i hle
    rw [List.take_append_of_le_length (by omega)]
    exact split_cut _ hi m (by omega)
theorem rest_at (ts : List (List UInt8)) (h100 : ∀ t ∈ ts, t.length ≤ 100) (cut : Nat) : ∀ k, k ≤ ts.length → endOf ts k ≤ cut → rest k ((fr ts).take cut) = (fr (ts.drop k)).take (cut - endOf ts k)
  | 0, _, _ => by simp [rest, endOf, fr]
  | k + 1, h, hc => by
    have hk : k < ts.length := by omega
    have he := endOf_succ ts k hk
    have ih := rest_at ts h100 cut k (by omega) (by omega)
    rw [rest, ih, step_at ts h100 _ k hk, if_pos (by omega), fr_drop ts k hk]
    simp only [Int.toNat_natCast]
    rw [List.take_append, List.take_of_length_le (by omega), List.drop_left' rfl, he]
    congr 1
    omega
theorem goes_at (ts : List (List UInt8)) (h100 : ∀ t ∈ ts, t.length ≤ 100) (cut k : Nat) (h : k ≤ ts.length) (hc : endOf ts k ≤ cut) :
    (goes k ((fr ts).take cut) = true → ∃ hk : k < ts.length, endOf ts (k + 1) ≤ cut ∧ body k ((fr ts).take cut) = ts[k] ∧ size k ((fr ts).take cut) = ((frame ts[k]).length : Int)) ∧
    (goes k ((fr ts).take cut) = false → k = ts.length ∨ (k < ts.length ∧ cut < endOf ts (k + 1))) := by
  have hr := rest_at ts h100 cut k h hc
  by_cases hk : k < ts.length
  · have hs := step_at ts h100 (cut - endOf ts k) k hk
    have he := endOf_succ ts k hk
    rw [← hr] at hs
    have hl := frame_len _ (h100 _ (List.getElem_mem hk))
    unfold goes body size
    by_cases hle : (frame ts[k]).length ≤ cut - endOf ts k
    · rw [if_pos hle] at hs
      rw [hs]
      refine ⟨fun _ => ⟨hk, by omega, rfl, rfl⟩, fun h => ?_⟩
      exfalso
      have h0 : ((frame ts[k]).length : Int) ≠ 0 := by omega
      rw [show ((0 : Int) == 0) = true from rfl, beq_eq_false_iff_ne.2 h0] at h
      cases h
    · rw [if_neg hle] at hs
      rw [hs]
      exact ⟨fun h => by simp at h, fun _ => .inr ⟨hk, by omega⟩⟩
  · have hke : k = ts.length := by omega
    subst hke
    refine ⟨fun h => ?_, fun _ => .inl rfl⟩
    unfold goes at h
    rw [hr, List.drop_of_length_le (Nat.le_refl _)] at h
    simp [fr, splitR, first] at h
theorem upto_at (ts : List (List UInt8)) (h100 : ∀ t ∈ ts, t.length ≤ 100) (cut : Nat) : ∀ k, k ≤ ts.length → endOf ts k ≤ cut → upto k ((fr ts).take cut) = (endOf ts k : Int)
  | 0, _, _ => by simp [upto, endOf, fr]
  | k + 1, h, hc => by
    have hk : k < ts.length := by omega
    have he := endOf_succ ts k hk
    have ih := upto_at ts h100 cut k (by omega) (by omega)
    have hr := rest_at ts h100 cut k (by omega) (by omega)
    rw [upto_succ, ih, he, size, hr, step_at ts h100 _ k hk, if_pos (by omega)]
    simp
end Wr
/-- A slice's cells read as these texts. -/
def Strs (w : World) (A : Option Addr) (ss : List (List UInt8)) : Prop := RdV w A (ss.map fun s => .string ⟨s.toArray⟩)
structure InStrs (w : World) (A : Option Addr) (n c : Nat) (ss : List (List UInt8)) : Prop where
  len : ss.length = n
  cap : n ≤ c
  most : c ≤ maxLen
  small : ∀ s ∈ ss, s.length ≤ maxLen
  rd : Strs w A ss
section
variable {H : Type} {enc : TypeId × Value → H} {P : Program} {w : World} {held : Bool}
theorem in_strs {t e : TypeId} {fuel len cap : Nat} {A : Option Addr} {x : DataW H × List MemPlace} (ht : P.underlying t = some (.slice e)) (he : P.underlying e = some .string) (hc : P.cellsOf e = 1)
    (h : DataW.trod enc P w 0 (fun _ => true) held fuel t [.slice A len cap] = some x) : ∃ ss, InStrs w A len cap ss := by
  rcases Deep.open_strs ht he hc h with ⟨hcs, _⟩ | ⟨ad, l, c, m, Sx, hcs, _, hl, hm, hmm, _, hcell⟩
  · injection hcs with h1
    injection h1 with h1 h2 h3
    subst h1 h2 h3
    exact ⟨[], rfl, Nat.le_refl _, Nat.zero_le _, by simp, RdV.nil _ _⟩
  · injection hcs with h1
    injection h1 with h1 h2 h3
    subst h1 h2 h3
    simp only [if_true] at hmm
    subst hmm
    refine ⟨(List.range len).map fun i => (Sx i).data.toList, by simp, hl, hm, fun s hs => ?_, rdV_of fun i hi => ?_⟩
    · obtain ⟨i, hi, rfl⟩ := List.mem_map.1 hs
      have := (hcell i (by have := List.mem_range.1 hi; omega)).2
      simpa using this
    · have hi' : i < len := by simpa using hi
      have := (hcell i (by omega)).1
      rw [this]
      simp
end
theorem eqlFuncNil {W : World} (fn : Fn) (a b : Array Value) : (binOp .eql 83 (.func fn a b) .nilFunc).run Try.prog W = .ok (.bool false) W := by
  first | kernel_rfl | rfl
theorem wFrames_any (A : Option Addr) (n c : Nat) (l : List UInt8) (w : World) (hn : l.length = n) (hm : n ≤ 140737488355328) (hr : Rd w A l) :
    Calls Try.prog 33 #[.slice A n c] w fun e w' => ∃ gf gd A1 c1, e = .returned (.func (.func 65) #[] #[.pointer (some ⟨gf, 0, none⟩)]) ∧ Row w' gf 22 #[.slice A1 n c1] ∧ Rd w' A1 l ∧ n ≤ c1 ∧ c1 ≤ maxLen ∧ (∀ ad, A1 = some ad → ad.block = gd) ∧ w.heap.size ≤ gf ∧ w.heap.size ≤ gd ∧ gd < w'.heap.size ∧ Below w.heap.size w w' := by
  have hmf : ∀ (fn : Fn) (first cap : Array Value) (w : World), (Instr.makeFunc fn first cap).run Try.prog w = .ok (.func fn first cap) w := fun _ _ _ _ => rfl
  have k1 := Row.new w 22 #[.slice A n c]
  have hb := (Later.refl w).alloc (.cells #[.slice A n c] 22)
  have hcl := clone_any A n c l (w.alloc (.cells #[.slice A n c] 22)) hn hm (hr.later hb)
  refine Calls.post fun Φ HΦ => ?_
  go_enter Try.func33, Try.ntmps33
  go_upto_region 1 with fail
  obtain ⟨q, hq⟩ : ∃ q, q = w.heap.size := ⟨_, rfl⟩
  rw [← hq] at k1 ⊢
  have HQ := Lib.hid hq
  clear hq
  generalize w.alloc (.cells #[.slice A n c] 22) = w1 at *
  have c1 : w1.cell? ⟨q, 0, none⟩ = some (.slice A n c) := (k1.cell 0).trans rfl
  have hq1 := k1.lt
  go_upto_region 2 with (first
    | (go_at_call 40; refine hcl.mono ?_; clear hcl; rintro e w2 ⟨v, rfl, hown, hb2⟩; obtain ⟨A2, c2', rfl, hc2, hcm2, hrd2⟩ := hown.slice; have k2 := k1.belowAll hb2; have c2 : w2.cell? ⟨q, 0, none⟩ = some (.slice A n c) := (k2.cell 0).trans rfl; have f2 : w2.frozen? ⟨q, 0, none⟩ = false := k2.frozen 0)
    | fail)
  subst hn
  have hat := hown.at_
  have hs2 := hb2.size
  have hset := k2.set 0 (.slice A2 l.length c2')
  have hb3 : Below w.heap.size w (w2.setCell ⟨q, 0, none⟩ (.slice A2 l.length c2')) := (hb.step hb2).setCell (p := ⟨q, 0, none⟩) (by have := HQ.out; show w.heap.size ≤ q; omega) _
  have hrd3 : Rd (w2.setCell ⟨q, 0, none⟩ (.slice A2 l.length c2')) A2 l := hrd2.same (Same.set w2 ⟨q, 0, none⟩ _) fun b o e _ => by have := (hat b (by rw [e]; rfl)).1; show b ≠ q; omega
  have hsz3 : (w2.setCell ⟨q, 0, none⟩ (.slice A2 l.length c2')).heap.size = w2.heap.size := by simp [World.setCell]
  clear k2 c2 f2 hrd2 hown hr
  go_wp2_with fail
  refine HΦ.out _ _ ⟨q, (match A2 with | some ad => ad.block | none => q), A2, c2', rfl, hset, hrd3, hc2, hcm2, fun ad e => by subst e; rfl, by have := HQ.out; omega, ?_, ?_, hb3⟩
  · rcases A2 with _ | ad
    · show w.heap.size ≤ q; have := HQ.out; omega
    · show w.heap.size ≤ ad.block; have := (hat ad.block rfl).1; have := hb.size; omega
  · rw [hsz3]
    rcases A2 with _ | ad
    · show q < _; omega
    · show ad.block < _; exact (hat ad.block rfl).2
end Go.Proofs.Ytmipaacobioakaa
