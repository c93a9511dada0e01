/- Walks, msgs: Parse. -/
import Derived.Test.YtcajhdmppfiaeaaGreatGk20
set_option linter.unusedVariables false
set_option linter.unusedSimpArgs false
namespace Go.Proofs.YtcajhdmppfiaeaaGreat
open Go.RowKit Ms
namespace Ms
theorem take1_bad {r : RdS} (h : r.bad = true) (f : Fld) : (take1 r f).bad = true := by
  cases f with
  | num j m => show (Wr.numR r.l r.bad m).1.2 = true; rw [h]; simp [Wr.numR]
  | hash j => show (Wr.hashR r.l r.bad).1.2 = true; rw [h]; simp [Wr.hashR]
  | route => show (Wr.textR r.l r.bad 512).1.2 = true; rw [h]; simp [Wr.textR]
theorem taken_bad : ∀ (l : List Fld) {r : RdS}, r.bad = true → (taken l r).bad = true
  | [], _, h => h
  | f :: l, r, h => taken_bad l (take1_bad h f)
theorem taken_app (l m : List Fld) (r : RdS) : taken (l ++ m) r = taken m (taken l r) := List.foldl_append
theorem taken_snoc (l : List Fld) (f : Fld) (r : RdS) : taken (l ++ [f]) r = take1 (taken l r) f := taken_app l [f] r
theorem take1_wf {r : RdS} (h : r.s.wf) (f : Fld) : (take1 r f).s.wf := by
  cases f with
  | num j m => exact Said.setN_wf h _ _
  | hash j => exact Said.setH_wf h _ _ (pad32_len _)
  | route => exact Said.setR_wf h _
theorem taken_wf : ∀ (l : List Fld) {r : RdS}, r.s.wf → (taken l r).s.wf
  | [], _, h => h
  | f :: l, r, h => taken_wf l (take1_wf h f)
theorem start_wf (b : List UInt8) : (start b).s.wf := blank_wf _
theorem final_wf (b : List UInt8) : (final b).s.wf := taken_wf _ (start_wf b)
theorem parse_wf (b : List UInt8) : (parse b).wf := by
  unfold parse
  split
  · exact final_wf b
  · exact blank_wf 0
theorem ok_bad {b : List UInt8} (h : (final b).bad = true) : okB b = false := by
  unfold okB
  rw [h]
  rfl
theorem ok_at {b : List UInt8} {fs : List Fld} (hf : flds (start b).s.kind = fs) (k : Nat) (h : (taken (fs.take k) (start b)).bad = true) : okB b = false := by
  apply ok_bad
  unfold final
  rw [hf, ← List.take_append_drop k fs, taken_app]
  exact taken_bad _ h
theorem take_pad (r : RdS) (f : Fld) (hb : r.bad = false) : r = ⟨r.l, false, r.s⟩ := by
  cases r
  simp at hb
  subst hb
  rfl
theorem route_le (r : RdS) (n : Nat) (hl : r.l.length ≤ n) (hr : r.s.route.length ≤ n) (f : Fld) : (take1 r f).l.length ≤ n ∧ (take1 r f).s.route.length ≤ n := by
  cases f with
  | num j m =>
    refine ⟨?_, ?_⟩
    · show (Wr.numR r.l r.bad m).1.1.length ≤ n
      unfold Wr.numR
      split
      · exact hl
      · split
        · exact hl
        · split
          · rw [List.length_drop]; omega
          · exact hl
    · have : (r.s.setN j (Wr.numR r.l r.bad m).2.1).route = r.s.route := by
        rcases j with _ | _ | _ | _ | _ | _ | _ | _ | _ | _ | _ | _ | j <;> rfl
      show (r.s.setN j (Wr.numR r.l r.bad m).2.1).route.length ≤ n
      rw [this]; exact hr
  | hash j =>
    refine ⟨?_, ?_⟩
    · show (Wr.hashR r.l r.bad).1.1.length ≤ n
      unfold Wr.hashR
      split
      · exact hl
      · split
        · rw [List.length_drop]; omega
        · exact hl
    · have : (r.s.setH j (pad32 (Wr.hashR r.l r.bad).2.1)).route = r.s.route := by
        rcases j with _ | _ | _ | _ | _ | _ | _ | _ | _ | j <;> rfl
      show (r.s.setH j (pad32 (Wr.hashR r.l r.bad).2.1)).route.length ≤ n
      rw [this]; exact hr
  | route =>
    refine ⟨?_, ?_⟩
    · show (Wr.textR r.l r.bad 512).1.1.length ≤ n
      unfold Wr.textR Wr.textRest
      split
      · exact hl
      · split
        · exact hl
        · split
          · rw [List.length_drop, List.length_drop]; omega
          · exact hl
    · show (Wr.textR r.l r.bad 512).2.1.length ≤ n
      unfold Wr.textR Wr.textAt
      split
      · exact Nat.zero_le _
      · split
        · exact Nat.zero_le _
        · split
          · rw [List.length_take, List.length_drop]; omega
          · exact Nat.zero_le _
theorem routes_le : ∀ (l : List Fld) (r : RdS) (n : Nat), r.l.length ≤ n → r.s.route.length ≤ n → (taken l r).s.route.length ≤ n
  | [], _, _, _, h => h
  | f :: l, r, n, h1, h2 => by
    obtain ⟨h3, h4⟩ := route_le r n h1 h2 f
    exact routes_le l _ n h3 h4
theorem final_route (b : List UInt8) : (final b).s.route.length ≤ b.length := by
  refine routes_le _ _ _ ?_ (Nat.zero_le _)
  show (Wr.numR b false 14).1.1.length ≤ b.length
  unfold Wr.numR
  split
  · exact Nat.le_refl _
  · split
    · exact Nat.le_refl _
    · split
      · rw [List.length_drop]; omega
      · exact Nat.le_refl _
theorem okF_most {f : Fld} (h : okF f = true) : mostOk f := by
  cases f with
  | num j m => simp [okF] at h; exact h.2
  | hash j => trivial
  | route => trivial
end Ms
end Go.Proofs.YtcajhdmppfiaeaaGreat
