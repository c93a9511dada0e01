/- Walks, msgs: a hash, a text is taken; any part. -/
import Derived.Test.YtcajhdmppfiaeaaGreatGk7
set_option linter.unusedVariables false
set_option linter.unusedSimpArgs false
namespace Go.Proofs.YtcajhdmppfiaeaaGreat
open Go.RowKit Ms
theorem newH (w : World) (h : List UInt8) (hl : h.length ≤ 32) : ∃ w', (Instr.storeAt 24 (.pointer (some ⟨w.heap.size, 0, none⟩)) (.agg (hC h))).run Tryz.prog (w.alloc (.cells (hC []) 24)) = .ok () w' ∧ Row w' w.heap.size 24 (hC h) ∧ Later w w' := by
  obtain ⟨w', h1, h2, h3⟩ := storeH (a := []) (b := h) (by simp) hl (Row.new w 24 (hC []))
  exact ⟨w', h1, h2, Below.grown ((Later.refl w).alloc _) h3 (by simp only [World.size_alloc]; omega) (fun j e => by cases e; exact Nat.le_refl _)⟩
theorem Wr.hashR_two (l : List UInt8) : (∃ l1 v, Wr.hashR l false = ((l1, false), v, 0) ∧ v.length = 32) ∨ (∃ l1, Wr.hashR l false = ((l1, true), [], 140)) := by
  unfold Wr.hashR
  rw [if_neg (by simp)]
  split
  · rename_i h
    exact .inl ⟨_, _, rfl, by rw [List.length_take]; omega⟩
  · exact .inr ⟨_, rfl⟩
theorem Wr.textR_two (l : List UInt8) (m : Int) (hm : 0 ≤ m) : (∃ l1 v, Wr.textR l false m = ((l1, false), v, 0)) ∨ (∃ l1, Wr.textR l false m = ((l1, true), [], 140)) := by
  unfold Wr.textR
  rw [if_neg (by simp), if_neg (by omega)]
  split
  · exact .inl ⟨_, _, rfl⟩
  · exact .inr ⟨_, rfl⟩
theorem loadFH {b o : Nat} {v : Value} {W : World} (hc : W.cell? ⟨b, o, none⟩ = some v) : (Instr.loadAt 131 (.pointer (some ⟨b, o, none⟩))).run Tryz.prog W = .ok v W := by
  go_simp
set_option maxRecDepth 100000 in
theorem takeH_any (gr : Nat) (A0 : Option Addr) (l0 l : List UInt8) (g j bt : Nat) (s : Said) (w : World) (hs : s.wf) (hj : okH j = true) (hmv : Moved w gr A0 l0 l false) (hrd : Rd w A0 l0) (hr : Row w g 29 (saidC s)) (hbt : Row w bt 131 #[.func (.func (hFn j)) #[] #[]]) :
    Calls Tryz.prog 118 #[.agg #[.pointer (some ⟨gr, 0, none⟩)], .pointer (some ⟨g, 0, none⟩), .pointer (some ⟨bt, 0, none⟩)] w (Took gr A0 l0 g s w (take1 ⟨l, false, s⟩ (.hash j))) := by
  obtain ⟨D, c, hrow, hc, hcm, hR⟩ := hmv
  have hgr : gr ≠ g := fun e => by subst e; exact absurd (Row.type hrow hr) (by decide)
  have htr : gr ≠ bt := fun e => by subst e; exact absurd (Row.type hrow hbt) (by decide)
  have hL : Later w (w.alloc (.cells #[.pointer (some ⟨gr, 0, none⟩)] 96)) := (Later.refl w).alloc _
  have k4 := Row.new w 96 #[.pointer (some ⟨gr, 0, none⟩)]
  have hnum := hash_mv gr l false _ D c (hrow.later hL) hc hcm ((hR w hrd).later hL)
  have hr1 := hr.later hL
  have hbt1 := hbt.later hL
  have hglt := hr.lt
  have hblt := hbt1.lt
  have hrlt := hrow.lt
  clear hr hbt hrow hrd
  unfold take1
  have hsz : w.heap.size ≤ (w.alloc (.cells #[.pointer (some ⟨gr, 0, none⟩)] 96)).heap.size := hL.size
  go_enter Tryz.func118, Tryz.ntmps118
  go_upto_region 1 with fail
  have c4 : (w.alloc (.cells #[.pointer (some ⟨gr, 0, none⟩)] 96)).cell? ⟨w.heap.size, 0, none⟩ = some (.pointer (some ⟨gr, 0, none⟩)) := (k4.cell 0).trans rfl
  generalize hW1 : w.alloc (.cells #[.pointer (some ⟨gr, 0, none⟩)] 96) = w1 at *
  clear hW1 k4
  rcases Wr.hashR_two l with ⟨l1, v, hn, hv⟩ | ⟨l1, hn⟩
  · rw [hn] at hnum
    have HN := Lib.hid hn
    have HNUM := Lib.hid hnum
    clear hn hnum
    go_upto_region 3 with (first
      | (go_at_call 119; refine HNUM.out.mono ?_; rintro e w2 ⟨hs2, rfl, hm2⟩; obtain ⟨w3, hst, kh, hL3⟩ := newH w2 v (Nat.le_of_eq hv))
      | (with_reducible refine wpList_alloc rfl 24 rfl (allocH _) ?_)
      | (guard_target =~ wpList _ _ _ (_ :: _) _ _; refine wpList_store rfl 24 (.tmp 5) (.tmp 11) rfl (.pointer (some ⟨w2.heap.size, 0, none⟩)) (.agg (hC v)) rfl rfl hst ?_)
      | (go_at_call 43; refine (mmust_ok _).mono ?_; rintro e w5 ⟨rfl, rfl⟩)
      | fail)
    have hr2 := (hr1.same hs2 ⟨hr1.lt, fun e => hgr e.symm⟩).later hL3
    have hbt2 := (hbt1.same hs2 ⟨hblt, fun e => htr e.symm⟩).later hL3
    have hm3 : Moved w5 gr D l l1 false := hm2.same (Same.of_below hL3.below) (by obtain ⟨D', c', h', _⟩ := hm2; exact h'.lt)
    have hs3 : Same (fun k => k < w1.heap.size ∧ k ≠ gr) w1 w5 := hs2.trans ((Same.of_below hL3.below).mono fun k h => Nat.lt_of_lt_of_le h.1 hs2.size)
    obtain ⟨q, hq⟩ : ∃ q, q = w2.heap.size := ⟨_, rfl⟩
    rw [← hq] at kh ⊢
    clear hst hr1 hbt1 c4 hs2 hm2 hq hL3
    refine (wpIn_wide (n := 0)).1 ?_
    refine wpIn_region_last wide_wide [Pr.eq (.func (.func (hFn j)) #[] #[]), Pr.eq (.pointer (some ⟨g, 0, none⟩)), Pr.eq (.pointer (some ⟨g, offH j, none⟩)), Pr.eq (.agg (hC v)), Pr.eq (.pointer (some ⟨g, offH j, none⟩))] (by kernel_rfl) (by kernel_rfl) (by kernel_rfl) (by kernel_rfl) (by kernel_rfl) (by kernel_rfl) rfl ⟨?_, ?_, ?_, ?_, ?_, trivial⟩ ?_
    · exact fun ac W hL he => stepOk_want rfl (op_load rfl (he.keep (.tmp 2) (by kernel_rfl)) (loadFH (((hbt2.later hL).cell 0).trans rfl)) rfl)
    · exact fun ac W hL he => stepOk_want rfl (op_move rfl (he.keep (.tmp 1) (by kernel_rfl)))
    · intro ac W hL he; refine stepOk_want rfl ?_; have e16 : ac.eval (.tmp 16) = .func (.func (hFn j)) #[] #[] := he.get 0 16 (by kernel_rfl) rfl; have e17 : ac.eval (.tmp 17) = .pointer (some ⟨g, 0, none⟩) := he.get 1 17 (by kernel_rfl) rfl; exact op_callV (vs := #[.pointer (some ⟨g, 0, none⟩)]) (all := #[.pointer (some ⟨g, 0, none⟩)]) rfl e16 (by simp only [List.map_toArray, List.map_cons, List.map_nil, e17]) (hfn_enters j) rfl ((hfn_any g j W hj).mono fun e W' ⟨he', hw'⟩ => ⟨_, he', hw' ▸ Later.refl _, rfl⟩)
    · exact fun ac W hL he => stepOk_want rfl (op_load rfl (he.keep (.tmp 5) (by kernel_rfl)) (loadH hv (kh.later hL)) rfl)
    · exact fun ac W hL he => stepOk_want rfl (op_nil rfl (he.get 2 18 (by kernel_rfl) rfl) rfl)
    intro xs W hL4 hx hk hgt
    have e20 := hgt 4 20 (by decide) (by kernel_rfl)
    have e19 := hgt 3 19 (by decide) (by kernel_rfl)
    rw [show xs 4 = .pointer (some ⟨g, offH j, none⟩) from hx 4 (by decide)] at e20
    rw [show xs 3 = .agg (hC v) from hx 3 (by decide)] at e19
    obtain ⟨w6, hst6, hr6, hg6⟩ := storeSaidH hs (hr2.later hL4) j (okH_lt hj) v hv
    refine last_store rfl rfl e20 e19 hst6 ?_
    clear hx hk hgt e20 e19
    simp only [initL, lastL, putL, Nat.reduceAdd, Act.put, List.setIfInBounds_toArray, List.set_cons_succ, List.set_cons_zero]
    go_wp2_with fail
    go_end0
    rw [HN.out]
    have hsz5 : w1.heap.size ≤ w5.heap.size := hs3.size
    have hm4 : Moved W gr D l l1 false := hm3.same (Same.of_below hL4.below) (by obtain ⟨D', c', h', _⟩ := hm3; exact h'.lt)
    have hglW : gr < W.heap.size := by obtain ⟨D', c', h', _⟩ := hm4; exact h'.lt
    unfold Took
    refine ⟨((Same.of_below hL.below).mono fun k h => h.1).trans ((hs3.mono fun k h => ⟨Nat.lt_of_lt_of_le h.1 hsz, h.2.1⟩).trans (((Same.of_below hL4.below).mono fun k h => Nat.lt_of_lt_of_le h.1 (Nat.le_trans hsz hsz5)).trans ((Same.of_grown hg6).mono fun k h => ⟨Nat.lt_of_lt_of_le h.1 (Nat.le_trans (Nat.le_trans hsz hsz5) hL4.size), fun e => h.2.2 (Option.some.inj e)⟩))), .inl ⟨rfl, rfl, ?_, ?_⟩⟩
    · exact Moved.trans hR (hm4.same (Same.of_grown hg6) ⟨hglW, fun e => hgr (Option.some.inj e)⟩)
    · show Row w6 g _ (saidC (s.setH j (pad32 v)))
      rw [show pad32 v = v from if_pos hv]
      exact hr6
  · rw [hn] at hnum
    have HN := Lib.hid hn
    have HNUM := Lib.hid hnum
    clear hn hnum
    go_wp2_with (first
      | (go_at_call 119; refine HNUM.out.mono ?_; rintro e w2 ⟨hs2, rfl, hm2⟩; obtain ⟨w3, hst, kh, hL3⟩ := newH w2 [] (by decide))
      | (with_reducible refine wpList_alloc rfl 24 rfl (allocH _) ?_)
      | (guard_target =~ wpList _ _ _ (_ :: _) _ _; refine wpList_store rfl 24 (.tmp 5) (.tmp 11) rfl (.pointer (some ⟨w2.heap.size, 0, none⟩)) (.agg (hC [])) rfl rfl hst ?_)
      | (go_at_call 43; refine (mmust_no _).mono ?_; rintro e w5 ⟨rfl, rfl⟩)
      | fail)
    rw [HN.out]
    refine ⟨rfl, ((Same.of_below hL.below).mono fun k h => h.1).trans ((hs2.mono fun k h => ⟨Nat.lt_of_lt_of_le h.1 hsz, h.2.1⟩).trans ((Same.of_below hL3.below).mono fun k h => Nat.lt_of_lt_of_le h.1 (Nat.le_trans hsz hs2.size))), .inr ⟨rfl, rfl, (hr1.same hs2 ⟨hr1.lt, fun e => hgr e.symm⟩).later hL3⟩⟩
set_option maxRecDepth 100000 in
theorem takeR_any (gr : Nat) (A0 : Option Addr) (l0 l : List UInt8) (g : Nat) (s : Said) (w : World) (hs : s.wf) (hmv : Moved w gr A0 l0 l false) (hrd : Rd w A0 l0) (hr : Row w g 29 (saidC s)) :
    Calls Tryz.prog 124 #[.agg #[.pointer (some ⟨gr, 0, none⟩)], .pointer (some ⟨g, 0, none⟩)] w (Took gr A0 l0 g s w (take1 ⟨l, false, s⟩ .route)) := by
  obtain ⟨D, c, hrow, hc, hcm, hR⟩ := hmv
  have hgr : gr ≠ g := fun e => by subst e; exact absurd (Row.type hrow hr) (by decide)
  have hL : Later w (w.alloc (.cells #[.pointer (some ⟨gr, 0, none⟩)] 96)) := (Later.refl w).alloc _
  have k4 := Row.new w 96 #[.pointer (some ⟨gr, 0, none⟩)]
  have hnum := text_mv gr l false 512 _ D c (hrow.later hL) hc hcm ((hR w hrd).later hL)
  have hr1 := hr.later hL
  have hglt := hr.lt
  have hrlt := hrow.lt
  clear hr hrow hrd
  unfold take1
  have hsz : w.heap.size ≤ (w.alloc (.cells #[.pointer (some ⟨gr, 0, none⟩)] 96)).heap.size := hL.size
  go_enter Tryz.func124, Tryz.ntmps124
  go_upto_region 1 with fail
  have c4 : (w.alloc (.cells #[.pointer (some ⟨gr, 0, none⟩)] 96)).cell? ⟨w.heap.size, 0, none⟩ = some (.pointer (some ⟨gr, 0, none⟩)) := (k4.cell 0).trans rfl
  generalize hW1 : w.alloc (.cells #[.pointer (some ⟨gr, 0, none⟩)] 96) = w1 at *
  clear hW1 k4
  rcases Wr.textR_two l 512 (by decide) with ⟨l1, n, hn⟩ | ⟨l1, hn⟩
  · rw [hn] at hnum
    have HN := Lib.hid hn
    have HNUM := Lib.hid hnum
    clear hn hnum
    go_upto_region 3 with (first
      | (go_at_call 125; refine HNUM.out.mono ?_; rintro e w2 ⟨hs2, rfl, hm2⟩)
      | (go_at_call 43; refine (mmust_ok _).mono ?_; rintro e w5 ⟨rfl, rfl⟩)
      | fail)
    have hr2 := hr1.same hs2 ⟨hr1.lt, fun e => hgr e.symm⟩
    obtain ⟨hst, hr3⟩ := storeSaidR hs hr2 n
    have HST := Lib.hid hst
    have HR3 := Lib.hid hr3
    have HS := Lib.hid hs2
    have HM := Lib.hid hm2
    clear hr2 hr3 hs2 hm2 hst hr1 c4
    go_wp2_with (first
      | (guard_target =~ wpList _ _ _ (_ :: _) _ _; refine wpList_store rfl 9 (.tmp 18) (.tmp 16) rfl (.pointer (some ⟨g, 301, none⟩)) (.string ⟨n.toArray⟩) rfl rfl HST.out ?_)
      | fail)
    go_end0
    rw [HN.out]
    unfold Took
    refine ⟨((Same.of_below hL.below).mono fun k h => h.1).trans ((HS.out.mono fun k h => ⟨Nat.lt_of_lt_of_le h.1 hsz, h.2.1⟩).trans ((Same.set _ ⟨g, 301, none⟩ _).mono fun k h => h.2.2)), .inl ⟨rfl, rfl, ?_, HR3.out⟩⟩
    exact (Moved.trans hR HM.out).far hgr _
  · rw [hn] at hnum
    have HN := Lib.hid hn
    have HNUM := Lib.hid hnum
    clear hn hnum
    go_wp2_with (first
      | (go_at_call 125; refine HNUM.out.mono ?_; rintro e w2 ⟨hs2, rfl, hm2⟩)
      | (go_at_call 43; refine (mmust_no _).mono ?_; rintro e w5 ⟨rfl, rfl⟩)
      | fail)
    rw [HN.out]
    refine ⟨rfl, ((Same.of_below hL.below).mono fun k h => h.1).trans (hs2.mono fun k h => ⟨Nat.lt_of_lt_of_le h.1 hsz, h.2.1⟩), .inr ⟨rfl, rfl, hr1.same hs2 ⟨hr1.lt, fun e => hgr e.symm⟩⟩⟩
/-- Bounds may be. -/
def mostOk : Fld → Prop
  | .num _ m => 0 ≤ m
  | _ => True
/-- A part is taken. -/
theorem mtake_any (f : Fld) (cs : Array Value) (gr : Nat) (A0 : Option Addr) (l0 l : List UInt8) (g : Nat) (s : Said) (w : World) (hs : s.wf) (hp : PartC w cs f) (ho : mostOk f) (hmv : Moved w gr A0 l0 l false) (hrd : Rd w A0 l0) (hr : Row w g 29 (saidC s)) :
    ∃ F caps, cs[1]? = some (.func (.func F) #[] caps) ∧ (∀ args w, (callFunc F args).run Tryz.prog w = .ok (.enter F args) w) ∧ Calls Tryz.prog F (#[.agg #[.pointer (some ⟨gr, 0, none⟩)], .pointer (some ⟨g, 0, none⟩)] ++ caps) w (Took gr A0 l0 g s w (take1 ⟨l, false, s⟩ f)) := by
  cases f with
  | num j m =>
    obtain ⟨h1, h2, bm, bt, rfl, r1, r2⟩ := hp
    exact ⟨_, _, rfl, enters_of Tryz.func114 (by kernel_rfl) rfl, takeN_any gr A0 l0 l g j bm bt m s w hs h1 h2 ho hmv hrd hr r1 r2⟩
  | hash j =>
    obtain ⟨h1, bt, rfl, r1⟩ := hp
    exact ⟨_, _, rfl, enters_of Tryz.func118 (by kernel_rfl) rfl, takeH_any gr A0 l0 l g j bt s w hs h1 hmv hrd hr r1⟩
  | route =>
    obtain rfl : cs = partR := hp
    exact ⟨_, _, rfl, enters_of Tryz.func124 (by kernel_rfl) rfl, takeR_any gr A0 l0 l g s w hs hmv hrd hr⟩
end Go.Proofs.YtcajhdmppfiaeaaGreat
