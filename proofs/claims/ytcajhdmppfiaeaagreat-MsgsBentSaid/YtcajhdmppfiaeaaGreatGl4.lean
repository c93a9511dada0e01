/- Msgs: fields copied from one message to another. -/
import Derived.Test.YtcajhdmppfiaeaaGreatGl3
set_option linter.unusedVariables false
set_option linter.unusedSimpArgs false
namespace Go.Proofs.YtcajhdmppfiaeaaGreat
open Go.RowKit Ms
def cpT (s t : Said) : Said := ((((((((t.setH 0 s.fund).setN 0 s.tix).setN 1 s.cap).setN 2 s.dust).setN 3 s.fee).setN 4 s.delay).setH 1 s.key0).setH 2 s.key1)
theorem cpT_wf {s t : Said} (hs : s.wf) (ht : t.wf) : (cpT s t).wf :=
  Said.setH_wf (Said.setH_wf (Said.setN_wf (Said.setN_wf (Said.setN_wf (Said.setN_wf (Said.setN_wf (Said.setH_wf ht 0 _ (hs 0 (by decide))) _ _) _ _) _ _) _ _) _ _) 1 _ (hs 1 (by decide))) 2 _ (hs 2 (by decide))
theorem out_h {s : Said} (h : s.wf) (j : Nat) (hj : j < 9) (v : List UInt8) (hv : v.length = 32) (i : Nat) (hi : i < offH j ∨ offH j + 32 ≤ i) : (saidC (s.setH j v))[i]? = (saidC s)[i]? := by
  have hz := hC_size v (Nat.le_of_eq hv)
  rw [← saidC_setH h j hj v hv, setFrom_get _ _ _ _ (by rw [Array.length_toList, hz, saidC_size h]; exact offH_le j hj), if_neg (by rw [Array.length_toList, hz]; omega)]
theorem out_n {s : Said} (h : s.wf) (j : Nat) (hj : j < 12) (v : Int) (i : Nat) (hi : i ≠ offN j) : (saidC (s.setN j v))[i]? = (saidC s)[i]? := by
  rw [← saidC_setN h j hj v, Array.getElem?_setIfInBounds_ne (fun e => hi e.symm)]
theorem cpT_put {s t : Said} (hs : s.wf) (ht : t.wf) : setFrom (saidC t) 1 (termsC s).toList = saidC (cpT s t) := by
  apply Array.ext_getElem?
  intro i
  have hz := termsC_size hs
  have hw := cpT_wf hs ht
  rw [setFrom_get _ _ _ _ (by rw [Array.length_toList, hz, saidC_size ht]; decide), Array.length_toList, hz]
  by_cases hi : 1 ≤ i ∧ i < 1 + 101
  · rw [if_pos hi, Array.getElem?_toList, termsC_get hs _ (by omega), show 1 + (i - 1) = i by omega]
    have hh : ∀ j, j < 3 → offH j ≤ i → i < offH j + 32 → (saidC s)[i]? = (saidC (cpT s t))[i]? := fun j hj h1 h2 => by
      have e1 := saidC_h hs j (by omega) (i - offH j) (by omega)
      have e2 := saidC_h hw j (by omega) (i - offH j) (by omega)
      rw [show offH j + (i - offH j) = i by omega] at e1 e2
      rw [e1, e2]
      rcases j with _ | _ | _ | j
      · rfl
      · rfl
      · rfl
      · omega
    have hn : ∀ j, j < 5 → i = offN j → (saidC s)[i]? = (saidC (cpT s t))[i]? := fun j hj h1 => by
      rw [h1, saidC_n hs j (by omega), saidC_n hw j (by omega)]
      rcases j with _ | _ | _ | _ | _ | j
      · rfl
      · rfl
      · rfl
      · rfl
      · rfl
      · omega
    have h0 : offH 0 = 1 := rfl
    have h1 : offH 1 = 38 := rfl
    have h2 : offH 2 = 70 := rfl
    have n0 : offN 0 = 33 := rfl
    have n1 : offN 1 = 34 := rfl
    have n2 : offN 2 = 35 := rfl
    have n3 : offN 3 = 36 := rfl
    have n4 : offN 4 = 37 := rfl
    by_cases c0 : i < 33
    · exact hh 0 (by decide) (by omega) (by omega)
    by_cases c1 : 70 ≤ i
    · exact hh 2 (by decide) (by omega) (by omega)
    by_cases c2 : 38 ≤ i
    · exact hh 1 (by decide) (by omega) (by omega)
    by_cases c3 : i = 33
    · exact hn 0 (by decide) (by omega)
    by_cases c4 : i = 34
    · exact hn 1 (by decide) (by omega)
    by_cases c5 : i = 35
    · exact hn 2 (by decide) (by omega)
    by_cases c6 : i = 36
    · exact hn 3 (by decide) (by omega)
    · exact hn 4 (by decide) (by omega)
  · rw [if_neg hi]
    have a0 := Said.setH_wf ht 0 s.fund (hs 0 (by decide))
    have a1 := Said.setN_wf a0 0 s.tix
    have a2 := Said.setN_wf a1 1 s.cap
    have a3 := Said.setN_wf a2 2 s.dust
    have a4 := Said.setN_wf a3 3 s.fee
    have a5 := Said.setN_wf a4 4 s.delay
    have a6 := Said.setH_wf a5 1 s.key0 (hs 1 (by decide))
    have h0 : offH 0 = 1 := rfl
    have h1 : offH 1 = 38 := rfl
    have h2 : offH 2 = 70 := rfl
    have n0 : offN 0 = 33 := rfl
    have n1 : offN 1 = 34 := rfl
    have n2 : offN 2 = 35 := rfl
    have n3 : offN 3 = 36 := rfl
    have n4 : offN 4 = 37 := rfl
    unfold cpT
    rw [out_h a6 2 (by decide) s.key1 (hs 2 (by decide)) i (by omega), out_h a5 1 (by decide) s.key0 (hs 1 (by decide)) i (by omega), out_n a4 4 (by decide) _ i (by omega), out_n a3 3 (by decide) _ i (by omega), out_n a2 2 (by decide) _ i (by omega), out_n a1 1 (by decide) _ i (by omega), out_n a0 0 (by decide) _ i (by omega), out_h ht 0 (by decide) s.fund (hs 0 (by decide)) i (by omega)]
theorem storeSaidT {w : World} {g : Nat} {s t : Said} (hs : s.wf) (ht : t.wf) (hr : Row w g 29 (saidC t)) : ∃ w', (Instr.storeAt 27 (.pointer (some ⟨g, 1, none⟩)) (.agg (termsC s))).run Tryz.prog w = .ok () w' ∧ Row w' g 29 (saidC (cpT s t)) ∧ w.grownBy w' (some g) := by
  have hz := termsC_size hs
  refine ⟨_, run_store_row hr (termsC s) (by rw [hz]; exact infoTerms) (by rw [hz, saidC_size ht]; decide) (termsC_one s), ?_, grown_setCells _ _ _⟩
  have h2 := row_setCells (termsC s).toList 1 w _ hr
  rwa [cpT_put hs ht] at h2
/-- The rows as a message is copied: m fields are laid. -/
structure NA (w : World) (g1 g2 g3 : Nat) (s : Said) (L : Nat → Said) (m : Nat) (W : World) : Prop where
  low : Below g1 w W
  src : Row W g1 29 (saidC s)
  res : Row W g2 29 (saidC (Ms.blank 0))
  wf : (L m).wf
  row : Row W g3 29 (saidC (L m))
  lt : g1 < g2 ∧ g2 < g3
theorem NA.later {w W W' : World} {g1 g2 g3 : Nat} {s : Said} {L : Nat → Said} {m : Nat} (h : NA w g1 g2 g3 s L m W) (hL : Later W W') : NA w g1 g2 g3 s L m W' :=
  ⟨h.low.trans (hL.below.mono (Nat.le_of_lt h.src.lt)), h.src.later hL, h.res.later hL, h.wf, h.row.later hL, h.lt⟩
theorem NA.put {w W W' : World} {g1 g2 g3 : Nat} {s : Said} {L : Nat → Said} {m k : Nat} (h : NA w g1 g2 g3 s L m W) (hg : W.grownBy W' (some g3)) (hw : (L k).wf) (hr : Row W' g3 29 (saidC (L k))) : NA w g1 g2 g3 s L k W' :=
  ⟨h.low.grown hg (Nat.le_of_lt h.src.lt) (fun j e => by injection e with e; have := h.lt; omega), h.src.grown hg (fun e => by injection e with e; have := h.lt; omega), h.res.grown hg (fun e => by injection e with e; have := h.lt; omega), hw, hr, h.lt⟩
theorem na_n {w W : World} {g1 g2 g3 : Nat} {s : Said} {L : Nat → Said} {m : Nat} (h : NA w g1 g2 g3 s L m W) (j : Nat) (hj : j < 12) (hL : L (m + 1) = (L m).setN j (s.n j)) : ∃ W', (Instr.storeAt 2 (.pointer (some ⟨g3, offN j, none⟩)) (.int .i64 (s.n j))).run Tryz.prog W = .ok () W' ∧ NA w g1 g2 g3 s L (m + 1) W' := by
  obtain ⟨h1, h2⟩ := storeSaidN h.wf h.row j hj (s.n j)
  exact ⟨_, h1, h.put (grown_set _ _ _ _) (by rw [hL]; exact Said.setN_wf h.wf _ _) (by rw [hL]; exact h2)⟩
theorem na_h {w W : World} {g1 g2 g3 : Nat} {s : Said} {L : Nat → Said} {m : Nat} (h : NA w g1 g2 g3 s L m W) (hs : s.wf) (j : Nat) (hj : j < 9) (hL : L (m + 1) = (L m).setH j (s.h j)) : ∃ W', (Instr.storeAt 24 (.pointer (some ⟨g3, offH j, none⟩)) (.agg (hC (s.h j)))).run Tryz.prog W = .ok () W' ∧ NA w g1 g2 g3 s L (m + 1) W' := by
  obtain ⟨W', h1, h2, h3⟩ := storeSaidH h.wf h.row j hj (s.h j) (hs j hj)
  exact ⟨W', h1, h.put h3 (by rw [hL]; exact Said.setH_wf h.wf _ _ (hs j hj)) (by rw [hL]; exact h2)⟩
theorem na_r {w W : World} {g1 g2 g3 : Nat} {s : Said} {L : Nat → Said} {m : Nat} (h : NA w g1 g2 g3 s L m W) (hL : L (m + 1) = (L m).setR s.route) : ∃ W', (Instr.storeAt 9 (.pointer (some ⟨g3, 301, none⟩)) (.string ⟨s.route.toArray⟩)).run Tryz.prog W = .ok () W' ∧ NA w g1 g2 g3 s L (m + 1) W' := by
  obtain ⟨h1, h2⟩ := storeSaidR h.wf h.row s.route
  exact ⟨_, h1, h.put (grown_set _ _ _ _) (by rw [hL]; exact Said.setR_wf h.wf _) (by rw [hL]; exact h2)⟩
theorem na_t {w W : World} {g1 g2 g3 : Nat} {s : Said} {L : Nat → Said} {m : Nat} (h : NA w g1 g2 g3 s L m W) (hs : s.wf) (hL : L (m + 1) = cpT s (L m)) : ∃ W', (Instr.storeAt 27 (.pointer (some ⟨g3, 1, none⟩)) (.agg (termsC s))).run Tryz.prog W = .ok () W' ∧ NA w g1 g2 g3 s L (m + 1) W' := by
  obtain ⟨W', h1, h2, h3⟩ := storeSaidT hs h.wf h.row
  exact ⟨W', h1, h.put h3 (by rw [hL]; exact cpT_wf hs h.wf) (by rw [hL]; exact h2)⟩
/-- What a message of its kind names. -/
def nmL (s : Said) (k : Int) : List Said :=
  let b := Ms.blank k
  if k = 1 then [b, cpT s b, (cpT s b).setN 5 s.reserve, ((cpT s b).setN 5 s.reserve).setN 6 s.amount, (((cpT s b).setN 5 s.reserve).setN 6 s.amount).setH 3 s.point, ((((cpT s b).setN 5 s.reserve).setN 6 s.amount).setH 3 s.point).setH 4 s.next]
  else if k = 2 then [b, b.setH 5 s.key, (b.setH 5 s.key).setH 3 s.point, ((b.setH 5 s.key).setH 3 s.point).setH 4 s.next]
  else if k = 3 then [b, b.setH 6 s.hash, (b.setH 6 s.hash).setN 9 s.index, ((b.setH 6 s.hash).setN 9 s.index).setH 7 s.tag]
  else if k = 4 then [b, b.setH 7 s.tag]
  else if k = 6 then [b, b.setN 7 s.id, (b.setN 7 s.id).setN 6 s.amount, ((b.setN 7 s.id).setN 6 s.amount).setH 6 s.hash, (((b.setN 7 s.id).setN 6 s.amount).setH 6 s.hash).setN 10 s.expiry, ((((b.setN 7 s.id).setN 6 s.amount).setH 6 s.hash).setN 10 s.expiry).setR s.route]
  else if k = 7 then [b, b.setN 7 s.id, (b.setN 7 s.id).setH 8 s.secret]
  else if k = 8 then [b, b.setN 7 s.id, (b.setN 7 s.id).setN 11 s.code]
  else if k = 9 then [b, b.setN 8 s.number, (b.setN 8 s.number).setH 7 s.tag]
  else if k = 10 then [b, b.setN 8 s.number, (b.setN 8 s.number).setH 8 s.secret, ((b.setN 8 s.number).setH 8 s.secret).setH 4 s.next]
  else if k = 11 then [b, b.setN 8 s.number, (b.setN 8 s.number).setN 7 s.id]
  else if k = 13 then [b, b.setN 6 s.amount, (b.setN 6 s.amount).setH 7 s.tag]
  else if k = 14 then [b, b.setN 11 s.code]
  else [b]
def nmAt (s : Said) (k : Int) (m : Nat) : Said := (nmL s k).getD m (Ms.blank k)
def nmd (s : Said) (k : Int) : Said := nmAt s k ((nmL s k).length - 1)
theorem fieldSd {g : Nat} {W : World} : (∀ i o, (i, o) ∈ [(1, 1), (2, 102), (3, 103), (4, 104), (5, 136), (6, 168), (7, 200), (8, 232), (9, 264), (10, 296), (11, 297), (12, 298), (13, 299), (14, 300), (15, 301)] → (Instr.fieldAt 29 (.pointer (some ⟨g, 0, none⟩)) i).run Tryz.prog W = .ok (.pointer (some ⟨g, o, none⟩)) W) := by
  intro i o h
  simp only [List.mem_cons, Prod.mk.injEq, List.not_mem_nil, or_false] at h
  rcases h with ⟨rfl, rfl⟩ | ⟨rfl, rfl⟩ | ⟨rfl, rfl⟩ | ⟨rfl, rfl⟩ | ⟨rfl, rfl⟩ | ⟨rfl, rfl⟩ | ⟨rfl, rfl⟩ | ⟨rfl, rfl⟩ | ⟨rfl, rfl⟩ | ⟨rfl, rfl⟩ | ⟨rfl, rfl⟩ | ⟨rfl, rfl⟩ | ⟨rfl, rfl⟩ | ⟨rfl, rfl⟩ | ⟨rfl, rfl⟩
  all_goals go_simp
end Go.Proofs.YtcajhdmppfiaeaaGreat
