/- Bytes copied, with one more behind, while other things are done in an order that is open. -/
import Derived.Test.YtfconncnccgenaaOrder4
import Derived.Test.YtfconncnccgenaaShaT8
import Derived.Test.YtfconncnccgenaaAppZ2
set_option linter.unusedVariables false
set_option linter.unusedSimpArgs false
namespace Go.Proofs.Ytfconncnccgenaa
open Go.RowKit
/-- One byte behind bytes of one's own: in its place, or in a row that is new. -/
theorem run_append_one {P : Program} (w : World) (base g n cap : Nat) (t ty U : TypeId) (ht : P.underlying t = some (.slice U)) (hi : ByteInfo P U) (l : List UInt8) (hn : l.length = n) (hown : Own U w base (.slice (some ⟨g, 0, none⟩) n cap) l) (hb : base ≤ w.heap.size)
    (b : Nat) (c : UInt8) (m : Nat) (hc : w.cell? ⟨b, 0, none⟩ = some (byteV c)) (hm : n ≤ 1000000000) :
    (n < cap ∧ (Builtin.append_ #[t, t] ty #[.slice (some ⟨g, 0, none⟩) n cap, .slice (some ⟨b, 0, none⟩) 1 m]).run P w = .ok (.slice (some ⟨g, 0, none⟩) (n + 1) cap) (w.setCell ⟨g, n, none⟩ (byteV c))) ∨
    (∃ v' w', (Builtin.append_ #[t, t] ty #[.slice (some ⟨g, 0, none⟩) n cap, .slice (some ⟨b, 0, none⟩) 1 m]).run P w = .ok v' w' ∧ Later w w' ∧ Own U w' base v' (l ++ [c])) := by
  obtain ⟨i, hi0, hz, hs, hby⟩ := info_parts hi
  subst hn
  have hnews : ∀ j u, [byteV c][j]? = some u → w.cell? ((⟨b, 0, none⟩ : Addr).add j) = some u := fun j u hu => by
    rcases j with _ | j
    · simp at hu; subst hu; exact hc
    · simp at hu
  rcases hown.2 with ⟨hv, _⟩ | ⟨g', cap', cur, hv, hbg, hg, hnc, hcm, hcs, htake⟩
  · cases hv
  · injection hv with h1 h2 h3
    injection h1 with h1
    injection h1 with h1
    subst h1 h3
    rw [Nat.mul_one] at hcs
    by_cases hroom : l.length + 1 ≤ cap
    · left
      refine ⟨by omega, ?_⟩
      have hr := run_append_room (P := P) w t ty U i ht hi0 g l.length cap cur hg ⟨b, 0, none⟩ 1 m [byteV c] (by rw [hs]; rfl) hnews (fun u hu => by simp at hu; subst hu; rfl) hroom (by rw [hs]; simp; omega)
      rw [hr, hs, Nat.mul_one]
      congr 1
      have hset : (cur.toList.take l.length ++ [byteV c] ++ cur.toList.drop (l.length + [byteV c].length)).toArray = cur.setIfInBounds l.length (byteV c) := by
        apply Array.ext'
        rw [Array.toList_setIfInBounds, List.set_eq_take_append_cons_drop, if_pos (by simp; omega)]
        simp
      rw [hset]
      have h5 := hg
      simp only [World.setRow, World.setCell]
      congr 1
      apply Array.ext_getElem?
      intro k
      simp only [Array.getElem?_modify]
      by_cases hk : g = k
      · subst hk
        simp [hg]
      · simp [hk]
    · right
      have holds : ∀ j u, (l.map byteV)[j]? = some u → w.cell? ((⟨g, 0, none⟩ : Addr).add j) = some u := World.ownsRow.cells hown (g := g) rfl
      have hr := run_append_grow (P := P) w t ty U i _ ht hi0 hz ⟨g, 0, none⟩ l.length cap (l.map byteV) (by rw [hs]; simp) holds ⟨b, 0, none⟩ 1 m [byteV c] (by rw [hs]; rfl) hnews (by omega) (by omega) (by
        rw [hby]
        have := nextslicecap_le (need := l.length + 1) (old := cap) (by omega)
        omega)
      refine ⟨_, _, hr, ((Later.refl w).drew).alloc _, by simp, .inr ⟨w.heap.size, _, _, by simp; rfl, hb, heap_alloc_new w.drew _, by simpa using grownCap_ge w (l.length + 1) cap U, grownCap_le_maxLen w _ _ _ (by unfold maxLen; omega), ?_, ?_⟩⟩
      · have hge := grownCap_ge w (l.length + 1) cap U
        rw [show (Value.int IntKind.u8 0).cells = #[.int .u8 0] from rfl, zeroCells_list]
        simp
        omega
      · rw [show (Value.int IntKind.u8 0).cells = #[.int .u8 0] from rfl, zeroCells_list, Nat.mul_one]
        simp only [List.append_toArray, List.map_append, List.length_append, List.map_cons, List.map_nil]
        exact List.take_left' (by simp)
/-- What the row of n bytes bears: a byte set behind them. -/
def Turn (B n : Nat) (U : TypeId) (c : UInt8) (W W' : World) : Prop := Later W W' ∨ ∃ r cur, B ≤ r ∧ W.heap[r]? = some (.cells cur U (0, 0)) ∧ n < cur.size ∧ 0 < n ∧ W' = W.setCell ⟨r, n, none⟩ (byteV c)
theorem Turn.below {B n : Nat} {U : TypeId} {c : UInt8} {w W W' : World} (h : Below B w W) (hw : B ≤ w.heap.size) (ht : Turn B n U c W W') : Below B w W' := by
  rcases ht with hL | ⟨r, cur, hr, _, _, _, rfl⟩
  · exact h.trans (hL.below.mono (by have := h.size; omega))
  · exact h.setCell hr _
theorem own_set {U : TypeId} {W : World} {base : Nat} {v : Value} {l : List UInt8} {r k : Nat} {cur : Array Value} {x : Value} (h : Own U W base v l) (hr : W.heap[r]? = some (.cells cur U (0, 0))) (hk : k < cur.size) (hkeep : v.ownBlock = some r → l.length ≤ k ∨ ∃ hi : k < l.length, x = byteV l[k]) : Own U (W.setCell ⟨r, k, none⟩ x) base v l := by
  obtain ⟨h1, h2⟩ := h
  refine ⟨h1, ?_⟩
  rcases h2 with ⟨rfl, hn⟩ | ⟨g, cap, cur', rfl, hb, hh, hn, hc, hs, ht⟩
  · exact .inl ⟨rfl, hn⟩
  · by_cases e : g = r
    · subst e
      rw [hh] at hr
      injection hr with hr
      injection hr with e1 _ _
      subst e1
      refine .inr ⟨g, cap, cur'.setIfInBounds k x, rfl, hb, heap_setCell_same W g k cur' U x hh, hn, hc, by simpa using hs, ?_⟩
      rw [Array.toList_setIfInBounds, Nat.mul_one, List.take_set]
      rw [Nat.mul_one] at ht
      rw [ht]
      rcases hkeep rfl with h3 | ⟨hi, rfl⟩
      · exact List.set_eq_of_length_le (by simpa using h3)
      · apply List.ext_getElem?
        intro j
        rw [List.getElem?_set]
        by_cases e : k = j
        · subst e; rw [if_pos rfl, if_pos (by simpa using hi)]; simp [hi]
        · rw [if_neg e]
    · exact .inr ⟨g, cap, cur', rfl, hb, (heap_setCell_other W _ g x e).trans hh, hn, hc, hs, ht⟩
theorem row_turn {B n : Nat} {U T : TypeId} {c : UInt8} {W W' : World} {g : Nat} {cs : Array Value} (h : Row W g T cs) (hT : T ≠ U ∨ cs.size ≤ n) (ht : Turn B n U c W W') : Row W' g T cs := by
  rcases ht with hL | ⟨r, cur, _, hr, hn, _, rfl⟩
  · exact h.later hL
  · refine h.far (fun e => ?_) _
    have e' : g = r := e
    subst e'
    have h' : W.heap[g]? = some (.cells cs T (0, 0)) := h
    rw [h'] at hr
    injection hr with hr
    injection hr with e1 e2 _
    rcases hT with h1 | h1
    · exact h1 e2
    · subst e1; omega
theorem own_turn {B n : Nat} {U : TypeId} {c : UInt8} {W W' : World} {base : Nat} {v : Value} {l : List UInt8} (h : Own U W base v l) (hn : l.length ≤ n ∨ ∃ hi : n < l.length, l[n] = c) (ht : Turn B n U c W W') : Own U W' base v l := by
  rcases ht with hL | ⟨r, cur, _, hr, hn', _, rfl⟩
  · exact h.later hL
  · refine own_set h hr hn' (fun _ => ?_)
    rcases hn with h1 | ⟨hi, rfl⟩
    · exact .inl h1
    · exact .inr ⟨hi, rfl⟩
end Go.Proofs.Ytfconncnccgenaa
