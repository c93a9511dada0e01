/- Walks, msgs: a part is taken. -/
import Derived.Test.YtcajhdmppfiaeaaGreatGk6
set_option linter.unusedVariables false
set_option linter.unusedSimpArgs false
namespace Go.Proofs.YtcajhdmppfiaeaaGreat
open Go.RowKit Ms
theorem mmust_ok (w : World) : Calls Tryz.prog 43 #[.bool true] w fun e w' => w' = w ∧ e = .returned (.tuple #[]) := by
  go_enter Tryz.func43, Tryz.ntmps43
  go_wp2
  go_end0
  exact ⟨rfl, rfl⟩
def gaveUp (n : Int) : List PanicEntry := [{ v := .iface 33 (.int .i64 n), recovered := false }]
theorem mmust_no (w : World) : Calls Tryz.prog 43 #[.bool false] w fun e w' => w' = w ∧ e = .panicked (gaveUp 210) := by
  go_enter Tryz.func43, Tryz.ntmps43
  go_wp2
  exact ⟨rfl, rfl, rfl⟩
theorem Moved.trans {w' : World} {gr : Nat} {A0 D : Option Addr} {l0 l l1 : List UInt8} {b1 : Bool} (hR : ∀ X, Rd X A0 l0 → Rd X D l) (h : Moved w' gr D l l1 b1) : Moved w' gr A0 l0 l1 b1 := by
  obtain ⟨D', c', r', h1, h2, h3⟩ := h
  exact ⟨D', c', r', h1, h2, fun X hX => h3 X (hR X hX)⟩
theorem Wr.numR_two (l : List UInt8) (m : Int) (hm : 0 ≤ m) : (∃ l1 n, Wr.numR l false m = ((l1, false), n, 0)) ∨ (∃ l1, Wr.numR l false m = ((l1, true), 0, 140)) := by
  unfold Wr.numR
  rw [if_neg (by simp), if_neg (by omega)]
  split
  · exact .inl ⟨_, _, rfl⟩
  · exact .inr ⟨_, rfl⟩
/-- A reader and what is said, behind a part that was taken, or behind giving up. -/
def Took (gr : Nat) (A0 : Option Addr) (l0 : List UInt8) (g : Nat) (s : Said) (w : World) (R : RdS) (e : Ending) (w' : World) : Prop :=
  Same (fun k => k < w.heap.size ∧ k ≠ gr ∧ k ≠ g) w w' ∧ ((R.bad = false ∧ e = .returned (.tuple #[]) ∧ Moved w' gr A0 l0 R.l false ∧ Row w' g 29 (saidC R.s)) ∨ (R.bad = true ∧ e = .panicked (gaveUp 210) ∧ Row w' g 29 (saidC s)))
set_option maxRecDepth 100000 in
theorem takeN_any (gr : Nat) (A0 : Option Addr) (l0 l : List UInt8) (g j bm bt : Nat) (m : Int) (s : Said) (w : World) (hs : s.wf) (h1 : 1 ≤ j) (h2 : j ≤ 11) (hm : 0 ≤ m) (hmv : Moved w gr A0 l0 l false) (hrd : Rd w A0 l0) (hr : Row w g 29 (saidC s)) (hbm : Row w bm 2 #[.int .i64 m]) (hbt : Row w bt 128 #[.func (.func (nFn j)) #[] #[]]) :
    Calls Tryz.prog 114 #[.agg #[.pointer (some ⟨gr, 0, none⟩)], .pointer (some ⟨g, 0, none⟩), .pointer (some ⟨bm, 0, none⟩), .pointer (some ⟨bt, 0, none⟩)] w (Took gr A0 l0 g s w (take1 ⟨l, false, s⟩ (.num j m))) := by
  obtain ⟨D, c, hrow, hc, hcm, hR⟩ := hmv
  have hgr : gr ≠ g := fun e => by subst e; exact absurd (Row.type hrow hr) (by decide)
  have htr : gr ≠ bt := fun e => by subst e; exact absurd (Row.type hrow hbt) (by decide)
  have hL : Later w (w.alloc (.cells #[.pointer (some ⟨gr, 0, none⟩)] 96)) := (Later.refl w).alloc _
  have k4 := Row.new w 96 #[.pointer (some ⟨gr, 0, none⟩)]
  have hnum := rNumber_mv gr l false m _ D c (hrow.later hL) hc hcm ((hR w hrd).later hL)
  have hr1 := hr.later hL
  have cm : (w.alloc (.cells #[.pointer (some ⟨gr, 0, none⟩)] 96)).cell? ⟨bm, 0, none⟩ = some (.int .i64 m) := ((hbm.later hL).cell 0).trans rfl
  have hbt1 := hbt.later hL
  have hglt := hr.lt
  have hblt := hbt1.lt
  have hrlt := hrow.lt
  clear hr hbm hbt hrow hrd
  unfold take1
  have hsz : w.heap.size ≤ (w.alloc (.cells #[.pointer (some ⟨gr, 0, none⟩)] 96)).heap.size := hL.size
  go_enter Tryz.func114, Tryz.ntmps114
  go_upto_region 1 with fail
  have c4 : (w.alloc (.cells #[.pointer (some ⟨gr, 0, none⟩)] 96)).cell? ⟨w.heap.size, 0, none⟩ = some (.pointer (some ⟨gr, 0, none⟩)) := (k4.cell 0).trans rfl
  generalize hW1 : w.alloc (.cells #[.pointer (some ⟨gr, 0, none⟩)] 96) = w1 at *
  clear hW1 k4
  rcases Wr.numR_two l m hm with ⟨l1, n, hn⟩ | ⟨l1, hn⟩
  · rw [hn] at hnum
    have HN := Lib.hid hn
    have HNUM := Lib.hid hnum
    clear hn hnum
    go_upto_region 3 with (first
      | (go_at_call 42; refine HNUM.out.mono ?_; rintro e w2 ⟨hs2, rfl, hm2⟩)
      | (go_at_call 43; refine (mmust_ok _).mono ?_; rintro e w5 ⟨rfl, rfl⟩)
      | fail)
    have hr2 := hr1.same hs2 ⟨hr1.lt, fun e => hgr e.symm⟩
    have hbt2 := hbt1.same hs2 ⟨hblt, fun e => htr e.symm⟩
    have c1 : w5.cell? ⟨bt, 0, none⟩ = some (.func (.func (nFn j)) #[] #[]) := (hbt2.cell 0).trans rfl
    obtain ⟨hst, hr3⟩ := storeSaidN hs hr2 j (by omega) n
    have hcc := nfn_any g j w5 h1 h2
    have HST := Lib.hid hst
    have HR3 := Lib.hid hr3
    have HS := Lib.hid hs2
    have HM := Lib.hid hm2
    clear hr2 hbt2 hr3 hs2 hm2 hst hr1 hbt1 c4 cm
    go_wp2_with (first
      | (guard_target =~ wpList _ _ _ (_ :: _) _ _; refine wpList_callV rfl (.tmp 18) #[.tmp 19] _ rfl (f := nFn j) (bound := #[]) (vs := #[.pointer (some ⟨g, 0, none⟩)]) rfl (by simp only [List.map_toArray, List.map_cons, List.map_nil]; rfl) (nfn_enters j) rfl ?_; refine hcc.mono ?_; clear hcc; rintro e w6 ⟨rfl, hw6⟩; refine .inl ⟨_, rfl, ?_⟩; subst hw6)
      | (guard_target =~ wpList _ _ _ (_ :: _) _ _; refine wpList_store rfl 2 (.tmp 22) (.tmp 21) rfl (.pointer (some ⟨g, offN j, none⟩)) (.int .i64 n) rfl rfl HST.out ?_)
      | fail)
    go_end0
    rw [HN.out]
    unfold Took
    refine ⟨((Same.of_below hL.below).mono fun k h => h.1).trans ((HS.out.mono fun k h => ⟨Nat.lt_of_lt_of_le h.1 hsz, h.2.1⟩).trans ((Same.set _ ⟨g, offN j, none⟩ _).mono fun k h => h.2.2)), .inl ⟨rfl, rfl, ?_, HR3.out⟩⟩
    exact (Moved.trans hR HM.out).far hgr _
  · rw [hn] at hnum
    have HN := Lib.hid hn
    have HNUM := Lib.hid hnum
    clear hn hnum
    go_wp2_with (first
      | (go_at_call 42; refine HNUM.out.mono ?_; rintro e w2 ⟨hs2, rfl, hm2⟩)
      | (go_at_call 43; refine (mmust_no _).mono ?_; rintro e w5 ⟨rfl, rfl⟩)
      | fail)
    rw [HN.out]
    refine ⟨rfl, ((Same.of_below hL.below).mono fun k h => h.1).trans (hs2.mono fun k h => ⟨Nat.lt_of_lt_of_le h.1 hsz, h.2.1⟩), .inr ⟨rfl, rfl, hr1.same hs2 ⟨hr1.lt, fun e => hgr e.symm⟩⟩⟩
end Go.Proofs.YtcajhdmppfiaeaaGreat
