/- Walks: the writer's Hash. -/
import Derived.Test.YtmipaacobioakaaWr13
set_option linter.unusedVariables false
set_option linter.unusedSimpArgs false
namespace Go.Proofs.Ytmipaacobioakaa
open Go.RowKit
/-- A slice's cells read as these hashes. -/
def RdH (w : World) (A : Option Addr) (hs : List (List UInt8)) : Prop :=
  hs ≠ [] → ∃ b o, A = some ⟨b, o, none⟩ ∧ ∀ i (h : i < hs.length), w.rangeAt b (o + i * 32) (hC hs[i]).toList
theorem RdH.nil (w : World) (A : Option Addr) : RdH w A [] := fun h => absurd rfl h
theorem hC_first (h : List UInt8) : ∃ v, (hC h).toList[0]? = some v := by
  unfold hC Sha.zeros
  rcases h with _ | ⟨x, h⟩ <;> simp
theorem RdH.keep {w w' : World} {A : Option Addr} {hs : List (List UInt8)} (h : RdH w A hs) (hk : ∀ b, (∃ o, A = some ⟨b, o, none⟩) → hs ≠ [] → b < w.heap.size → w'.heap[b]? = w.heap[b]?) : RdH w' A hs := fun hl => by
  obtain ⟨b, o, e, hc⟩ := h hl
  have h0 : 0 < hs.length := List.length_pos_iff.2 hl
  obtain ⟨v, hv⟩ := hC_first hs[0]
  have hb : b < w.heap.size := block_lt_of_cell (hc 0 h0 0 v hv)
  exact ⟨b, o, e, fun i hi j v hv => (World.cell?_of_block (w := w) (a := ⟨b, o + i * 32 + j, none⟩) (hk b ⟨o, e⟩ hl hb)).trans (hc i hi j v hv)⟩
theorem RdH.below {w w' : World} {A : Option Addr} {hs : List (List UInt8)} (h : RdH w A hs) (hb : Below w.heap.size w w') : RdH w' A hs := h.keep fun b _ _ hl => hb.block b hl
theorem RdH.same {p : Nat → Prop} {w w' : World} {A : Option Addr} {hs : List (List UInt8)} (h : RdH w A hs) (hs' : Same p w w') (hp : ∀ b o, A = some ⟨b, o, none⟩ → hs ≠ [] → b < w.heap.size → p b) : RdH w' A hs := h.keep fun b ⟨o, e⟩ hl hb => hs'.block b (hp b o e hl hb)
theorem loadHr {w : World} {b o : Nat} {h : List UInt8} (hl : h.length = 32) (hr : w.rangeAt b o (hC h).toList) : (Instr.loadAt 53 (.pointer (some ⟨b, o, none⟩))).run Try.prog w = .ok (.agg (hC h)) w := by
  have := run_loadAt_mid (P := Try.prog) w b o 53 (hC h).toList _ hr Try.underlying53 rfl (by rw [Array.length_toList, hC_size h (by omega)]; exact infoH)
  rwa [Array.toArray_toList] at this
theorem Grew.later {w w1 w2 : World} {v v' : Value} (h : Grew w w1 v v') (k : Later w1 w2) : Grew w w2 v v' := ⟨⟨k.os.trans h.1.os, k.tape.trans h.1.tape, k.output.trans h.1.output, Nat.le_trans h.1.size k.size, fun i hi hn => (k.block i (Nat.lt_of_lt_of_le hi h.1.size)).trans (h.1.block i hi hn)⟩, h.2⟩
theorem Grew.later0 {w w1 w2 : World} {v v' : Value} (k : Later w w1) (h : Grew w1 w2 v v') : Grew w w2 v v' := ⟨⟨h.1.os.trans k.os, h.1.tape.trans k.tape, h.1.output.trans k.output, Nat.le_trans k.size h.1.size, fun i hi hn => (h.1.block i (Nat.lt_of_lt_of_le hi k.size) hn).trans (k.block i hi)⟩, fun i e => (h.2 i e).imp id (fun h => Nat.le_trans k.size h)⟩
theorem Wrote.later0 {w w1 w2 : World} {g : Nat} {r r' : Option Nat} (k : Later w w1) (h : Wrote w1 w2 g r r') : Wrote w w2 g r r' := ⟨((Same.of_below k).mono fun j hj => hj.1).trans (h.1.mono fun j hj => ⟨Nat.lt_of_lt_of_le hj.1 k.size, hj.2⟩), fun i e => (h.2 i e).imp id (fun h => Nat.le_trans k.size h)⟩
theorem flat_len32 : ∀ (l : List (List UInt8)), (∀ h ∈ l, h.length = 32) → l.flatten.length ≤ 32 * l.length
  | [], _ => by simp
  | x :: l, h => by
    have h1 := flat_len32 l (fun y hy => h y (List.mem_cons_of_mem _ hy))
    have h2 := h x List.mem_cons_self
    rw [List.flatten_cons, List.length_append, List.length_cons]
    omega
def Wr.hashes (l : List (List UInt8)) : List UInt8 := l.flatten
theorem fieldWr0 {g : Nat} (W : World) : (Instr.fieldAt 69 (.pointer (some ⟨g, 0, none⟩)) 0).run Try.prog W = .ok (.pointer (some ⟨g, 0, none⟩)) W := by
  go_simp
theorem loadSl {b o : Nat} {A : Option Addr} {n c : Nat} {W : World} (hc : W.cell? ⟨b, o, none⟩ = some (.slice A n c)) : (Instr.loadAt 22 (.pointer (some ⟨b, o, none⟩))).run Try.prog W = .ok (.slice A n c) W := by
  go_simp
set_option maxRecDepth 100000 in
set_option maxHeartbeats 1000000 in
theorem wHash_any (g : Nat) (r : Option Nat) (l0 : List UInt8) (A : Option Addr) (n c : Nat) (l : List (List UInt8)) (w : World) (hn : l.length = n) (hm : n ≤ 1000000) (hl32 : ∀ h ∈ l, h.length = 32) (hl0 : l0.length ≤ 100000000) (hr : RdH w A l) (hA : ∀ b o, A = some ⟨b, o, none⟩ → l ≠ [] → b ≠ g ∧ some b ≠ r) (hw : IsWr w g r l0) :
    Calls Try.prog 27 #[.pointer (some ⟨g, 0, none⟩), .slice A n c] w fun e w' => e = .returned (.int .i64 0) ∧ ∃ r', IsWr w' g r' (l0 ++ l.flatten) ∧ Wrote w w' g r r' := by
  have hw0 := hw
  obtain ⟨v, hrow, hown, hv, hrg⟩ := hw
  have HN := Lib.hid hn
  clear hn
  have hno := wnone_yes g v true w hrow
  clear hrow hown hv
  go_enter Try.func27, Try.ntmps27
  go_wp2_with (first
    | (go_at_call 36; refine hno.mono ?_; clear hno; rintro e w2 ⟨rfl, rfl⟩)
    | fail)
  have hgl := hw0.lt.1
  go_loopw [11] (fun t wr => ∃ i : Nat, i ≤ n ∧ t = .int .i64 (i : Int) ∧ ∃ r1, IsWr wr g r1 (l0 ++ (l.take i).flatten) ∧ Wrote w2 wr g r r1) (fun t _ => n - (intOf t).toNat)
  case atStart => exact ⟨0, by omega, rfl, r, by simpa using hw0, Wrote.refl _ _ _⟩
  case round =>
    obtain ⟨i, hi, rfl, r1, hwr1, hwr⟩ := hrel
    by_cases hlt : i < n
    · have hd : decide ((i : Int) < (n : Int)) = true := decide_eq_true (by omega)
      have hd' : decide (i < n) = true := decide_eq_true hlt
      have hil : i < l.length := by rw [HN.out]; exact hlt
      have hr1 : RdH wr A l := hr.same hwr.1 (fun b o e hne hb => ⟨hb, hA b o e (by intro h; subst h; exact hne rfl)⟩)
      obtain ⟨b, o, rfl, hcs⟩ := hr1 (by intro e; subst e; simp at hil)
      have hc := hcs i hil
      have hx32 := hl32 _ (List.getElem_mem hil)
      have hnx : (l.take (i + 1)).flatten = (l.take i).flatten ++ l[i] := by rw [List.take_succ_eq_append_getElem hil, List.flatten_append]; simp
      have hlen : (l.take i).flatten.length ≤ 32 * n := Nat.le_trans (flat_len32 _ (fun h hh => hl32 h (List.mem_of_mem_take hh))) (by rw [List.length_take]; omega)
      generalize l[i] = x at *
      have hld := loadHr hx32 hc
      obtain ⟨w3, hst, hrow3, hg3⟩ := storeH (a := []) (b := x) (by simp) (by omega) (Row.new wr 53 (hC []))
      have HNX := Lib.hid hnx
      have HX := Lib.hid hx32
      clear hnx hr1 hcs hc hx32
      go_upto_region 6 with (first
        | (refine wpList_load rfl 53 (.tmp 13) rfl (.pointer (some ⟨b, o + i * 32, none⟩)) rfl hld ?_)
        | (with_reducible refine wpList_alloc rfl 53 rfl (allocH _) ?_)
        | (refine wpList_store rfl 53 (.tmp 6) (.tmp 14) rfl (.pointer (some ⟨wr.heap.size, 0, none⟩)) (.agg (hC x)) rfl rfl hst ?_)
        | fail)
      simp only [Act.put, List.setIfInBounds_toArray, List.set_cons_succ, List.set_cons_zero]
      obtain ⟨v1, hrow1, hown1, hv1, hne1⟩ := hwr1
      obtain ⟨q, hq⟩ : ∃ q, q = wr.heap.size := ⟨_, rfl⟩
      rw [← hq] at hrow3 hg3 ⊢
      have hL3 : Later wr w3 := ((Later.refl wr).alloc (.cells (hC []) 53)).grown hg3 (by simp) (fun k e => by cases e; omega)
      obtain ⟨A1, n1, c1, rfl⟩ := hown1.shape
      have hrow13 := hrow1.later hL3
      have hown13 := hown1.later hL3
      refine (wpIn_wide (n := 0)).1 ?_
      refine wpIn_region_pivot wide_wide 6 [.pointer (some ⟨g, 0, none⟩), .pointer (some ⟨g, 0, none⟩), .pointer (some ⟨g, 0, none⟩), .pointer (some ⟨g, 0, none⟩), .slice A1 n1 c1, .slice (some ⟨q, 0, none⟩) 32 32, undef, .pointer (some ⟨g, 0, none⟩), .pointer (some ⟨g, 0, none⟩)] (fun W => Later w3 W) (fun y W => Own 5 W 0 y (l0 ++ (l.take i).flatten ++ x) ∧ Grew w3 W (.slice A1 n1 c1) y) (fun W W' h k => k.step h) (fun y W W' h k => ⟨k.1.later h, k.2.later h⟩) (Later.refl _) (by kernel_rfl) (by kernel_rfl) (by kernel_rfl) (by kernel_rfl) (by kernel_rfl) (by kernel_rfl) rfl (by kernel_rfl) (by kernel_rfl) ⟨?_, ?_, ?_, ?_, ?_, ?_, ?_, ?_, ?_, trivial⟩ ?_
      · exact fun ac W dd xx he => stepOk_want rfl (op_move rfl (he.keep (.tmp 0) (by kernel_rfl)))
      · exact fun ac W dd xx he => stepOk_want rfl (op_move rfl (he.keep (.tmp 0) (by kernel_rfl)))
      · exact fun ac W dd xx he => stepOk_want rfl (op_nil rfl (show ac.eval (.tmp 16) = .pointer (some ⟨g, 0, none⟩) from he.val 1 16 (by kernel_rfl) rfl rfl) rfl)
      · exact fun ac W dd xx he => stepOk_want rfl (op_fieldAddr rfl (show ac.eval (.tmp 17) = .pointer (some ⟨g, 0, none⟩) from he.val 2 17 (by kernel_rfl) rfl rfl) (fieldWr0 W) rfl)
      · exact fun ac W dd xx he => stepOk_want rfl (op_load rfl (show ac.eval (.tmp 18) = .pointer (some ⟨g, 0, none⟩) from he.val 3 18 (by kernel_rfl) rfl rfl) (loadSl ((he.both (C := fun W => Row W g 69 #[.slice A1 n1 c1, .bool true]) (fun W h => hrow13.later h) (fun y W h => hrow13.grown h.2.1 (fun e => hne1 (hv1 ▸ e.symm)))).cell 0 |>.trans rfl)) rfl)
      · exact fun ac W dd xx he => stepOk_want rfl (op_slice (W' := W) rfl (he.keep (.tmp 6) (by kernel_rfl)) (rfl : _ = none) (rfl : _ = none) rfl (sliceHash W) rfl)
      · intro ac W he hA; refine ⟨rfl, ?_⟩; have e19 := (show ac.eval (.tmp 19) = .slice A1 n1 c1 from he.val 4 19 (by kernel_rfl) rfl rfl); have e20 := (show ac.eval (.tmp 20) = .slice (some ⟨q, 0, none⟩) 32 32 from he.val 5 20 (by kernel_rfl) rfl rfl); exact op_append_bytes (.tmp 19) (.tmp 20) 22 rfl 0 5 Try.underlying22 byteInfo (.slice A1 n1 c1) _ e19 (hown13.later hA) (some ⟨q, 0, none⟩) 32 32 x e20 HX.out (rd_hash HX.out (hrow3.later hA)) (by rw [List.length_append]; omega) (Nat.zero_le _) (fun v' w' h1 h2 h3 => ⟨v', rfl, h1, Grew.later0 hA (Grew.of_at h2 h3)⟩)
      · exact fun ac W dd xx he => stepOk_want rfl (op_nil rfl (show ac.eval (.tmp 15) = .pointer (some ⟨g, 0, none⟩) from he.val 0 15 (by kernel_rfl) rfl rfl) rfl)
      · exact fun ac W dd xx he => stepOk_want rfl (op_fieldAddr rfl (show ac.eval (.tmp 22) = .pointer (some ⟨g, 0, none⟩) from he.val 7 22 (by kernel_rfl) rfl rfl) (fieldWr0 W) rfl)
      · intro xs W y hB hx hk hg
        have e8 := hg 8 23 (by decide) (by kernel_rfl)
        have e6 := hg 6 21 (by decide) (by kernel_rfl)
        rw [hx 8 (by decide)] at e8
        rw [hx 6 (by decide)] at e6
        obtain ⟨hownW, hgrW⟩ := hB
        obtain ⟨A4, n4, c4, rfl⟩ := hownW.shape
        have hrowW := hrow13.grown hgrW.1 (fun e => hne1 (hv1 ▸ e.symm))
        obtain ⟨hws, hwr2⟩ := wr_step hrow13 (hv1.symm ▸ hne1) hownW hgrW
        have hst4 : (Instr.storeAt 22 (.pointer (some ⟨g, 0, none⟩)) (.slice A4 n4 c4)).run Try.prog W = .ok () (W.setCell ⟨g, 0, none⟩ (.slice A4 n4 c4)) := by
          have h1 : W.cell? ⟨g, 0, none⟩ = some (.slice A1 n1 c1) := (hrowW.cell 0).trans rfl
          have h2 : W.frozen? ⟨g, 0, none⟩ = false := hrowW.frozen 0
          go_simp
        refine last_store rfl rfl e8 e6 hst4 ?_
        clear hx hk hg e8 e6
        simp only [initL, lastL, putL, Nat.reduceAdd, Act.put, List.setIfInBounds_toArray, List.set_cons_succ, List.set_cons_zero]
        go_wp2_with fail
        rw [List.append_assoc, ← HNX.out] at hws
        exact ⟨⟨i + 1, by omega, by go_num, _, hws, hwr.trans (Wrote.later0 hL3 (hv1 ▸ hwr2))⟩, by simp [intOf]; omega⟩
    · obtain rfl : i = n := by omega
      have hd : decide ((i : Int) < (i : Int)) = false := decide_eq_false (by omega)
      have hd' : decide (i < i) = false := decide_eq_false (by omega)
      rw [List.take_of_length_le (by rw [HN.out]; exact Nat.le_refl _)] at hwr1
      go_wp2_with fail
      go_ret
      exact ⟨rfl, r1, hwr1, hwr⟩
end Go.Proofs.Ytmipaacobioakaa
