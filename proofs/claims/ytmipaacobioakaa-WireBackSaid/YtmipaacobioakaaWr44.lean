/- WireBack: the walk. -/
import Derived.Test.YtmipaacobioakaaWr43
set_option linter.unusedVariables false
set_option linter.unusedSimpArgs false
namespace Go.Proofs.Ytmipaacobioakaa
open Go.RowKit
attribute [local go_sem] Oper.semAt_some
section
variable {P : Program} {W : World}
theorem geqI {t : TypeId} {k : IntKind} {i j : Int} (h : i < j) : (binOp .geq t (.int k i) (.int k j)).run P W = .ok (.bool false) W := by
  have h1 : decide (j ≤ i) = false := decide_eq_false (by omega)
  go_simp
end
theorem loadInts {b o m c : Nat} {S : Option Addr} {W : World} (hc : W.cell? ⟨b, o, none⟩ = some (.slice S m c)) : (Instr.loadAt 92 (.pointer (some ⟨b, o, none⟩))).run Try.prog W = .ok (.slice S m c) W := by
  go_simp
theorem loadStrs {b o m c : Nat} {S : Option Addr} {W : World} (hc : W.cell? ⟨b, o, none⟩ = some (.slice S m c)) : (Instr.loadAt 90 (.pointer (some ⟨b, o, none⟩))).run Try.prog W = .ok (.slice S m c) W := by
  go_simp
theorem idxInts {b n c i : Nat} (W : World) (h : i < n) : (Instr.indexAt 92 (.slice (some ⟨b, 0, none⟩) n c) (.int .i64 (i : Int))).run Try.prog W = .ok (.pointer (some ⟨b, i, none⟩)) W := by
  have h1 : (i : Int) < (n : Int) := by omega
  have h2 : (0 : Int) ≤ (i : Int) := by omega
  go_simp
theorem idxStrs {b o n c i : Nat} (W : World) (h : i < n) : (Instr.indexAt 90 (.slice (some ⟨b, o, none⟩) n c) (.int .i64 (i : Int))).run Try.prog W = .ok (.pointer (some ⟨b, o + i, none⟩)) W := by
  have h1 : (i : Int) < (n : Int) := by omega
  have h2 : (0 : Int) ≤ (i : Int) := by omega
  go_simp
theorem KeepW.of_later {D : Nat → Prop} {x : Fr} {X Y : World} (h : Later X Y) : KeepW D x X Y := ⟨h.size, fun b hb _ _ => Below.block h b hb⟩
theorem retM {F : Fence} {n : Nat} {P : Program} {fn : Func} {R : Ending → World → Prop} {T : Array Value} {w : World} {v : Value} (h : (results fn T).run P w = .ok v w) (hR : R (.returned v) w) : bodyPostM F n P fn R .ret { tmps := T, defers := [] } w := ⟨v, h, hR⟩
theorem leaveM {F : Fence} {n : Nat} {P : Program} {fn : Func} {R : Ending → World → Prop} {T : Array Value} {D : Nat} {w : World} {v : Value} (hD : w.heap[D]? = some (.deferred (some [])))
    (h : (results fn T).run P (w.putObj D (.deferred none)) = .ok v (w.putObj D (.deferred none))) (hR : R (.returned v) (w.putObj D (.deferred none))) : bodyPostM F n P fn R .ret { tmps := T, defers := [{ target := .collected D, args := #[] }] } w :=
  ⟨by simp, .inl ⟨_, _, rfl, run_takeDeferred hD, v, h, hR⟩⟩
theorem leaveX {q D : Nat} {w X W : World} (hK : X.heap[D]? = some (.deferred (some []))) (hb : Below w.heap.size w X) (k6 : Row W (q + 1) 4 #[.bool false]) (hL : Later X W) (hqD : q + 1 < D) (hq : w.heap.size ≤ q) (hDw : w.heap.size ≤ D) :
    (W.setCell ⟨q + 1, 0, none⟩ (.bool true)).heap[D]? = some (.deferred (some [])) ∧ ((W.setCell ⟨q + 1, 0, none⟩ (.bool true)).putObj D (.deferred none)).cell? ⟨q + 1, 0, none⟩ = some (.bool true) ∧
      Below w.heap.size w ((W.setCell ⟨q + 1, 0, none⟩ (.bool true)).putObj D (.deferred none)) := by
  have h1 : (W.setCell ⟨q + 1, 0, none⟩ (.bool true)).heap[D]? = some (.deferred (some [])) := (Below.heap_setCell W ⟨q + 1, 0, none⟩ _ D (by show D ≠ q + 1; omega)).trans ((Below.block hL D (Array.getElem?_eq_some_iff.1 hK).1).trans hK)
  have hs := hb.size
  have hs2 := hL.size
  have hB : Below w.heap.size w (W.setCell ⟨q + 1, 0, none⟩ (.bool true)) := (hb.trans (hL.mono hs)).setCell (p := ⟨q + 1, 0, none⟩) (by show w.heap.size ≤ q + 1; omega) _
  refine ⟨h1, ?_, hB.trans (below_put _ _ _ _ hDw hB.size)⟩
  exact (World.cell?_of_block (w := W.setCell ⟨q + 1, 0, none⟩ (.bool true)) (a := ⟨q + 1, 0, none⟩) (World.putObj_heap_other (by show q + 1 ≠ D; omega))).trans (((k6.set 0 (.bool true)).cell 0).trans rfl)
set_option maxRecDepth 100000 in
set_option maxHeartbeats 16000000 in
theorem wireBack_main (A : Option Addr) (n c : Nat) (xs : List ActL) (A2 : Option Addr) (n2 c2 : Nat) (ts : List (List UInt8)) (cut : Int) (w : World) (hn : xs.length = n) (hm : n ≤ 30) (hall : xs.all Wr.small = true) (hx : Acts w A xs) (hn2 : ts.length = n2) (hm2 : n2 ≤ 8) (hs2 : ∀ t ∈ ts, t.length ≤ maxLen) (hrd : Strs w A2 ts) (hcut : -9223372036854775808 ≤ cut ∧ cut ≤ 9223372036854775807) :
    Calls Try.prog 8 #[.slice A n c, .slice A2 n2 c2, .int .i64 cut] w fun e w' => e = .returned (.bool true) ∧ Below w.heap.size w w' := by
  refine Calls.post fun Φ HΦ => ?_
  have k4 := (Row.new w 90 #[.slice A2 n2 c2]).alloc (.cells #[.bool false] 4)
  have k6 := Row.new (w.alloc (.cells #[.slice A2 n2 c2] 90)) 4 #[.bool false]
  have hL1 := ((Later.refl w).alloc (.cells #[.slice A2 n2 c2] 90)).alloc (.cells #[.bool false] 4)
  simp only [World.size_alloc] at k6
  have hx1 := Acts.later hx hL1
  have hfew := few_any A n c xs 30 ((w.alloc (.cells #[.slice A2 n2 c2] 90)).alloc (.cells #[.bool false] 4)) hn (by omega) (by omega) hx1
  rw [hall, show decide (n ≤ 30) = true from decide_eq_true hm] at hfew
  have HN := Lib.hid hn
  have HN2 := Lib.hid hn2
  have HALL := Lib.hid hall
  clear hn hall hn2 hx1
  refine (callsIn_wide (n := 10)).1 ?_
  refine callsIn_of_wp_marks Try.func8 rfl trivial ?_ rfl
  simp only [Try.ntmps8, List.size_toArray, List.length_cons, List.length_nil, Nat.reduceAdd, Nat.reduceSub, Array.replicate_succ, Array.replicate_zero, List.push_toArray, List.append_toArray, List.nil_append, List.cons_append]
  refine wpIn_wide.2 ?_
  go_upto_region 1 with fail
  obtain ⟨q, hq⟩ : ∃ q, q = w.heap.size := ⟨_, rfl⟩
  rw [← hq] at k4 k6 ⊢
  have HQ := Lib.hid hq
  clear hq
  generalize (w.alloc (.cells #[.slice A2 n2 c2] 90)).alloc (.cells #[.bool false] 4) = w1 at *
  have hnew := new_any w1
  have c41 : w1.cell? ⟨q, 0, none⟩ = some (.slice A2 n2 c2) := (k4.cell 0).trans rfl
  have d8 : decide ((8 : Int) < (n2 : Int)) = false := decide_eq_false (by omega)
  have d8' : decide (8 < n2) = false := decide_eq_false (by omega)
  go_upto_region 4 with (first
    | (go_at_call 24; refine hfew.mono ?_; clear hfew; rintro e w' ⟨rfl, hww⟩; replace hww := hww.symm; subst hww)
    | (go_at_call 10; refine hnew.mono ?_; clear hnew; rintro e w2 ⟨rfl, hw2, hL2, hlt2⟩)
    | fail)
  clear c41 d8 d8'
  have hq1 := k6.lt
  obtain ⟨g, hg⟩ : ∃ g, g = w1.heap.size := ⟨_, rfl⟩
  rw [← hg] at hw2 hlt2 ⊢
  have hg0 : w1.heap.size ≤ g := Nat.le_of_eq hg.symm
  clear hg
  go_wp2_with fail
  go_loopw [8, 9] (fun v t wr => ∃ (i : Nat) (r : Option Nat) (ds : List ActR), i ≤ n ∧ t = .int .i64 (i : Int) ∧ Later w1 wr ∧ IsWr wr g r (Wr.laid ds) ∧ (∀ k, r = some k → w1.heap.size ≤ k) ∧ OwnActs wr w1.heap.size v ds ∧ (∀ k, v.ownBlock = some k → k ≠ g ∧ some k ≠ r) ∧ ds.length ≤ i ∧ ∀ d ∈ ds, d.ok w ∧ Wr.small d.x = true ∧ Wr.layNo d.x = 0) (fun _ t _ => n - (intOf t).toNat)
  case atStart => exact ⟨0, none, [], by omega, rfl, hL2, by simpa [Wr.laid] using hw2, by simp, OwnActs.nil _ _, by simp [Value.ownBlock], by simp, by simp⟩
  case round =>
    clear hw2 hL2 hlt2
    obtain ⟨i, r, ds, hi, rfl, hLr, hwr, hr0, hown, hvb, hdl, hds⟩ := hrel
    have hdlay : ∀ d ∈ ds, (Wr.lay d.x).length ≤ 400 := fun d hd => Wr.lay_len (hds d hd).2.1 (hds d hd).1.h32
    have hTl := Wr.laid_len ds hdlay
    by_cases hlt : i < n
    · have hd : decide ((i : Int) < (n : Int)) = true := decide_eq_true (by omega)
      have hd' : decide (i < n) = true := decide_eq_true hlt
      have hil : i < xs.length := by rw [HN.out]; exact hlt
      obtain ⟨b, o, rfl, hcs⟩ := hx (by intro e; subst e; simp at hil)
      obtain ⟨A1, A2', A3, c1, c2', c3, hc, hok⟩ := hcs i hil
      have hsm : Wr.small xs[i] = true := by have := HALL.out; rw [List.all_eq_true] at this; exact this _ (List.getElem_mem hil)
      have hLwr := hL1.step hLr
      have hld := loadAct (w := wr) (b := b) (o := o + i * 5) (x := xs[i]) (A1 := A1) (A2 := A2') (A3 := A3) (c1 := c1) (c2 := c2') (c3 := c3) (fun j v hv => hLwr.cell (hc j v hv))
      have hlay := lay_any g r (Wr.laid ds) xs[i] A1 A2' A3 c1 c2' c3 w wr hLwr (Nat.le_trans hL1.size hg0) (fun k e => Nat.le_trans hL1.size (hr0 k e)) hok hsm (by omega) hwr
      have hlx := Wr.lay_len hsm hok.h32
      generalize xs[i] = x at *
      obtain ⟨d, hde⟩ : ∃ d : ActR, d = ⟨x, A1, A2', A3, c1, c2', c3⟩ := ⟨_, rfl⟩
      have hcell : d.cells = actA x A1 A2' A3 c1 c2' c3 := by subst hde; rfl
      have hdok : d.ok w := by subst hde; exact hok
      have hdx : d.x = x := by subst hde; rfl
      rw [← hcell] at hld hlay
      rw [← hdx] at hsm hlay hlx
      have hcd : w.rangeAt b (o + i * 5) d.cells.toList := by rw [hcell]; exact hc
      have HC := Lib.hid hcd
      clear hcell hde hok hc hcs hdx hcd
      obtain ⟨no, hno⟩ : ∃ no, Wr.layNo d.x = no := ⟨_, rfl⟩
      rw [hno] at hlay
      have HNO := Lib.hid hno
      have hgl := hwr.lt
      clear hil hno
      go_upto_region 9 with (first
        | (refine wpList_load rfl 67 (.tmp 43) rfl (.pointer (some ⟨b, o + i * 5, none⟩)) rfl hld ?_)
        | (go_at_call 25; refine hlay.mono ?_; clear hlay; rintro e w2 ⟨v7, r2, rfl, hown7, hw2, hwt⟩)
        | fail)
      have hL2 := later_of_wrote hLr hg0 hr0 hwt
      have hown2 := hown.keep (fun b hb e => hwt.1.block b ⟨hb, (hvb b e).1, (hvb b e).2⟩)
      have hr20 : ∀ k, r2 = some k → w1.heap.size ≤ k := fun k e => by
        rcases hwt.2 k e with h | h
        · exact hr0 k h
        · exact Nat.le_trans hLr.size h
      have hvb2 := fun k (e : _ = some k) => (show k ≠ g ∧ some k ≠ r2 from ⟨(hvb k e).1, fun h => by
        rcases hwt.2 k h.symm with h' | h'
        · exact (hvb k e).2 h'.symm
        · have := (hown.at_ k e).2; omega⟩)
      have hgl2 := hw2.lt
      have hld2 := loadAct (w := w2) (b := b) (o := o + i * 5) (x := d.x) (A1 := d.A1) (A2 := d.A2) (A3 := d.A3) (c1 := d.c1) (c2 := d.c2) (c3 := d.c3) (range_later HC.out (hL1.step hL2))
      clear hown hvb hr0 hwt hown7 hwr hLr hgl hld
      by_cases hz : no = 0
      · have e0 : (no == 0) = true := by simpa using hz
        go_wp2_with (first
          | (go_at_call 13; refine (numE_any _ _).mono ?_; rintro e w' ⟨rfl, hww⟩; subst hww)
          | (refine wpList_load rfl 67 (.tmp 55) rfl (.pointer (some ⟨b, o + i * 5, none⟩)) rfl hld2 ?_)
          | (at_builtin; refine wpList_append_act rfl (.tmp 52) (.tmp 57) rfl w1.heap.size _ ds rfl (hown2.later ((Later.refl _).alloc _)) w2.heap.size 1 d rfl (Row.new w2 _ d.cells) (by omega) (by have := hL2.size; simp; omega) ?_; intro v3 w3 hown3 hg3 hat3)
          | fail)
        have hL2a := hL2.step ((Later.refl w2).alloc (.cells d.cells 67))
        have hL3 : Later w1 w3 := hL2a.grown hg3 hL2a.size (fun j e => (hown2.at_ j e).1)
        have hw3 := (hw2.later ((Later.refl w2).alloc (.cells d.cells 67))).mono (Same.of_grown hg3) ⟨by simp; omega, fun e => (hvb2 g e.symm).1 rfl⟩ (fun k e h => ⟨h, fun e2 => (hvb2 k e2.symm).2 e.symm⟩)
        have hvb3 : ∀ k, v3.ownBlock = some k → k ≠ g ∧ some k ≠ r2 := fun k e => by
          rcases hat3 with h | h
          · exact hvb2 k (h ▸ e)
          · rw [h] at e
            have := Option.some.inj e
            simp at this
            refine ⟨by have := hgl2.1; omega, fun h2 => by have := hgl2.2 k h2.symm; omega⟩
        have hds3 : ∀ y ∈ ds ++ [d], y.ok w ∧ Wr.small y.x = true ∧ Wr.layNo y.x = 0 := fun y hy => by
          rcases List.mem_append.1 hy with h | h
          · exact hds y h
          · obtain rfl : y = d := by simpa using h
            exact ⟨hdok, hsm, HNO.out.trans hz⟩
        go_roundw
        case rel => exact ⟨i + 1, r2, ds ++ [d], by omega, by go_num, hL3, by rw [Wr.laid_snoc]; exact hw3, hr20, hown3, hvb3, by simp; omega, hds3⟩
        case measure => simp [intOf]; omega
      · have e0 : (no == 0) = false := by simpa using hz
        go_wp2_with (first
          | (go_at_call 13; refine (numE_any _ _).mono ?_; rintro e w' ⟨rfl, hww⟩; subst hww)
          | fail)
        go_roundw
        case rel => exact ⟨i + 1, r2, ds, by omega, by go_num, hL2, by rw [Wr.lay_none (by rw [HNO.out]; exact hz), List.append_nil] at hw2; exact hw2, hr20, hown2, hvb2, by omega, hds⟩
        case measure => simp [intOf]; omega
    · obtain rfl : i = n := by omega
      have hd : decide ((i : Int) < (i : Int)) = false := decide_eq_false (by omega)
      have hd' : decide (i < i) = false := decide_eq_false (by omega)
      have hll : (Wr.laid ds).length ≤ 400 * i := by omega
      obtain ⟨l0, hl0⟩ : ∃ l, Wr.laid ds = l := ⟨_, rfl⟩
      rw [hl0] at hwr hll
      have hall := all_any g r l0 wr (by omega) hwr
      have HL0 := Lib.hid hl0
      clear hl0 hTl hvb hr0 hwr
      go_upto_region 12 with (first
        | (go_at_call 14; refine hall.mono ?_; clear hall; rintro e w2 ⟨v2, rfl, hown2, hL2⟩; obtain ⟨A3, c3, rfl, hc3, hcm3, hrd3⟩ := hown2.slice; have hread := read_any A3 _ c3 l0 w2 rfl (by omega) hrd3)
        | (go_at_call 17; refine hread.mono ?_; clear hread; rintro e w3 ⟨g2, rfl, hr3, hg2, hL3⟩)
        | fail)
      have hown4 := (hown.later hL2).later hL3
      have hvb4 := fun k e => ((hown.later hL2).at_ k e).2
      obtain ⟨A4, c4, rfl, hat4⟩ := hown4.slice
      obtain ⟨m, hm4⟩ : ∃ m, ds.length = m := ⟨_, rfl⟩
      rw [hm4] at hdl ⊢
      have HM := Lib.hid hm4
      have hLw3 : Later w1 w3 := (hLr.step hL2).step hL3
      have hLw : Later w w3 := hL1.step hLw3
      have hg2w : w1.heap.size ≤ g2 := Nat.le_trans (hLr.step hL2).size hg2
      have hgl2 := hr3.lt
      have hg2q := hLw3.size
      clear hown hown2 hown4 hrd3 hc3 hcm3 hm4 hL2 hL3 hLr
      go_wp2_with fail
      go_loopw [14] (fun t wr => ∃ j : Nat, j ≤ m ∧ t = .int .i64 (j : Int) ∧ IsRd wr g2 (Wr.laid (ds.drop j)) false ∧ Same (fun k => k < w3.heap.size ∧ k ≠ g2) w3 wr) (fun t _ => m - (intOf t).toNat)
      case atStart => exact ⟨0, by omega, rfl, by rw [List.drop_zero, HL0.out]; exact hr3, Same.refl _ _⟩
      case round =>
        clear hr3
        obtain ⟨j, hj, rfl, hwr, hsr⟩ := hrel
        by_cases hlt : j < m
        · have hd : decide ((j : Int) < (m : Int)) = true := decide_eq_true (by omega)
          have hd' : decide (j < m) = true := decide_eq_true hlt
          have hjl : j < ds.length := by rw [HM.out]; exact hlt
          obtain ⟨b, rfl, hc⟩ := hat4 j hjl
          have hsp := Wr.laid_drop ds j hjl
          rw [hsp] at hwr
          obtain ⟨hdok, hdsm, hdno⟩ := hds _ (List.getElem_mem hjl)
          have hLwr := later_of_same hLw (Nat.le_trans hL1.size hg2w) hsr
          have hbl : b < w3.heap.size := block_lt_of_cell (hc 0 _ rfl)
          have hbg : b ≠ g2 := by have := hvb4 b rfl; omega
          have hcr : wr.rangeAt b (j * 5) ds[j].cells.toList := fun k v hv => (World.cell?_of_block (w := w3) (a := ⟨b, j * 5 + k, none⟩) (hsr.block b ⟨hbl, hbg⟩)).trans (hc k v hv)
          have hld := loadAct (w := wr) (b := b) (o := j * 5) (x := ds[j].x) (A1 := ds[j].A1) (A2 := ds[j].A2) (A3 := ds[j].A3) (c1 := ds[j].c1) (c2 := ds[j].c2) (c3 := ds[j].c3) hcr
          have hrx := readAct_any g2 (Wr.laid (ds.drop (j + 1))) ds[j].x ds[j].A1 ds[j].A2 ds[j].A3 ds[j].c1 ds[j].c2 ds[j].c3 w wr hLwr (Nat.le_trans hL1.size hg2w) hdok hdsm hdno hwr
          obtain ⟨d, hde⟩ : ∃ d, ds[j] = d := ⟨_, rfl⟩
          have hcd : actA d.x d.A1 d.A2 d.A3 d.c1 d.c2 d.c3 = d.cells := rfl
          rw [hde, hcd] at hld hrx
          clear hsp hwr hdok hdsm hdno hc hcr hde hcd
          go_wp2_with (first
            | (refine wpList_load rfl 67 (.tmp 71) rfl (.pointer (some ⟨b, j * 5, none⟩)) rfl hld ?_)
            | (go_at_call 35; refine hrx.mono ?_; clear hrx; rintro e w4 ⟨rfl, hw4, hs4⟩; have hs14 := hsr.trans (hs4.mono fun k h => ⟨by have := hsr.size; have := h.1; omega, h.2⟩))
            | fail)
          go_roundw
          case rel => exact ⟨j + 1, by omega, by go_num, hw4, hs14⟩
          case measure => simp [intOf]; omega
        · obtain rfl : j = m := by omega
          have hd : decide ((j : Int) < (j : Int)) = false := decide_eq_false (by omega)
          have hd' : decide (j < j) = false := decide_eq_false (by omega)
          rw [List.drop_of_length_le (by rw [HM.out]; exact Nat.le_refl _)] at hwr
          have hleft := left_any g2 [] false wr (by simpa [Wr.laid] using hwr)
          have hend := end_any g2 [] false wr (by simpa [Wr.laid] using hwr)
          rw [show Wr.endR [] false = (([], false), 0) from rfl] at hend
          have hLr := later_of_same hLw3 hg2w hsr
          clear hat4 hds hwr hsr
          go_upto_region 19 with (first
            | (go_at_call 18; refine hleft.mono ?_; clear hleft; rintro e w4 ⟨rfl, rfl⟩)
            | (go_at_call 23; refine hend.mono ?_; clear hend; rintro e w5 ⟨hs5, rfl, hw5⟩; have hL5 := later_of_same hLr hg2w hs5)
            | (go_at_call 13; refine (numE_any _ _).mono ?_; rintro e w' ⟨rfl, hww⟩; subst hww)
            | fail)
          go_upto_region 21 with fail
          have k16 := Row.new w5 92 #[.slice none 0 0]
          have hL6 := hL5.alloc (.cells #[.slice none 0 0] 92)
          obtain ⟨q16, hq16⟩ : ∃ x, x = w5.heap.size := ⟨_, rfl⟩
          rw [← hq16] at k16 ⊢
          have hq16w : w1.heap.size ≤ q16 := by rw [hq16]; exact hL5.size
          have hlt16 := k16.lt
          clear hq16 hw5 hs5 hLr hL5
          generalize w5.alloc (.cells #[.slice none 0 0] 92) = w6 at *
          have hs61 := hL6.size
          go_wp2_with fail
          go_loopw [15, 17] (fun v t wr => ∃ (i : Nat) (vi : Value), i ≤ n2 ∧ t = .int .i64 (i : Int) ∧ Same (fun k => k < w6.heap.size ∧ k ≠ q16) w6 wr ∧ Own 5 wr w6.heap.size v (Wr.fr (ts.take i)) ∧ Row wr q16 92 #[vi] ∧ OwnInts wr w6.heap.size vi ((List.range i).map fun k => (Wr.endOf ts (k + 1) : Int)) ∧ (∀ k, v.ownBlock = some k → vi.ownBlock ≠ some k) ∧ ∀ t ∈ ts.take i, t.length ≤ 100) (fun _ t _ => n2 - (intOf t).toNat)
          case atStart => exact ⟨0, _, by omega, rfl, Same.refl _ _, by simpa [Wr.fr] using Own.nil _ _ _, k16, OwnInts.nil _ _, by simp [Value.ownBlock], by simp⟩
          case round =>
            obtain ⟨i, vi, hi, rfl, hsr, hown, kr16, hints, hdis, h100⟩ := hrel
            have hLr := later_of_same hL6 hq16w hsr
            have k4r := k4.later hLr
            have k6r := k6.later hLr
            have c4r : wr.cell? ⟨q, 0, none⟩ = some (.slice A2 n2 c2) := (k4r.cell 0).trans rfl
            have f6r : wr.frozen? ⟨q + 1, 0, none⟩ = false := k6r.frozen 0
            have c6r : wr.cell? ⟨q + 1, 0, none⟩ = some (.bool false) := (k6r.cell 0).trans rfl
            by_cases hlt : i < n2
            · have hd : decide ((i : Int) < (n2 : Int)) = true := decide_eq_true (by omega)
              have hd' : decide (i < n2) = true := decide_eq_true hlt
              have hil : i < ts.length := by rw [HN2.out]; exact hlt
              obtain ⟨b, o, rfl, hc⟩ := (hrd.below (hL1.step hLr)).at_ (k := i) (by simpa using hil)
              rw [List.getElem_map] at hc
              have hbig := hs2 _ (List.getElem_mem hil)
              have hsn := Wr.fr_snoc ts i hil
              have hen := Wr.endOf_succ ts i hil
              have hti : ts.take (i + 1) = ts.take i ++ [ts[i]] := List.take_succ_eq_append_getElem hil
              obtain ⟨x, hxe⟩ : ∃ x, ts[i] = x := ⟨_, rfl⟩
              rw [hxe] at hc hbig hsn hen hti
              have HSN := Lib.hid hsn
              have HEN := Lib.hid hen
              have HTI := Lib.hid hti
              clear hsn hen hti hxe hil
              unfold maxLen at hbig
              obtain ⟨xl, hxl⟩ : ∃ l, x.length = l := ⟨_, rfl⟩
              by_cases hx100 : xl ≤ 100
              · have hd1 : decide ((100 : Int) < (xl : Int)) = false := decide_eq_false (by omega)
                have hd1' : decide (100 < xl) = false := decide_eq_false (by omega)
                obtain ⟨Wc, capc, hcv, hrdc, hcc, hcm, hLc⟩ := conv_rd wr x (by omega)
                have hfrm := frame_any (some ⟨wr.heap.size, 0, none⟩) x.length capc x Wc rfl (by omega) hrdc
                rw [if_pos (by omega), if_pos (by omega)] at hfrm
                rw [hxl] at hcv hfrm
                have hFl := Wr.frame_len x (by omega)
                have hTl := Wr.fr_len _ h100
                rw [List.length_take] at hTl
                obtain ⟨T, hT⟩ : ∃ T, Wr.fr (ts.take i) = T := ⟨_, rfl⟩
                obtain ⟨F, hF⟩ : ∃ F, Wr.frame x = F := ⟨_, rfl⟩
                obtain ⟨U, hU⟩ : ∃ U, T ++ F = U := ⟨_, rfl⟩
                obtain ⟨E, hE⟩ : ∃ E, U.length = E := ⟨_, rfl⟩
                obtain ⟨zs, hzs⟩ : ∃ zs, (List.range i).map (fun k => (Wr.endOf ts (k + 1) : Int)) = zs := ⟨_, rfl⟩
                have hsn := HSN.out
                rw [hT, hF, hU] at hsn
                have hend : (Wr.endOf ts (i + 1)) = E := by unfold Wr.endOf; rw [hsn]; exact hE
                have hzl : zs.length = i := by rw [← hzs]; simp
                have hzn : (List.range (i + 1)).map (fun k => (Wr.endOf ts (k + 1) : Int)) = zs ++ [(E : Int)] := by rw [List.range_succ, List.map_append, hzs, List.map_singleton, hend]
                have hbound : T.length + F.length ≤ 140737488355328 := by rw [← hT, ← hF]; omega
                rw [hT] at hown
                rw [hzs] at hints
                rw [hF] at hfrm
                obtain ⟨Ai, ci, evi, _⟩ := hints.slice
                rw [hzl] at evi
                subst evi
                have c16r : wr.cell? ⟨q16, 0, none⟩ = some (.slice Ai i ci) := (kr16.cell 0).trans rfl
                have HU := Lib.hid hU
                have HE := Lib.hid hE
                have HSN' := Lib.hid hsn
                have HZN := Lib.hid hzn
                have HZL := Lib.hid hzl
                have HB := Lib.hid hbound
                have hszr := hsr.size
                clear hU hE hsn hzn hT hF hzs hend hTl hFl hrdc hcc hcm hbound hzl
                go_upto_region 29 with (first
                  | (go_at_call 29; refine hfrm.mono ?_; clear hfrm; rintro e w7 ⟨v7, rfl, hown7, hb7⟩; obtain ⟨A7, c7, rfl, hc7, hcm7, hrd7⟩ := hown7.slice; have hL7 := hLc.step hb7)
                  | (go_at_call 13; refine (numE_any _ _).mono ?_; rintro e w' ⟨rfl, hww⟩; subst hww)
                  | fail)
                have hszL := hL7.size
                have hown' := hown.later hL7
                have kr167 := kr16.later hL7
                have hints7 := hints.later hL7
                have hneq16 : ∀ k, Value.ownBlock _ = some k → k ≠ q16 := fun k (e : _ = some k) => by have := (hown.at_ k e).1; omega
                have hats := fun k e => (hints.at_ k e).2
                have hatb := fun k e => (hown.at_ k e).2
                have hatb1 := fun k e => (hown.at_ k e).1
                have hati1 := fun k e => (hints.at_ k e).1
                clear hown kr16 hints hown7 hb7 hLc c4r hc hc7 hcm7
                go_upto_region 30 with (first
                  | (at_builtin; refine wpList_append_bytes rfl (.tmp 109) (.tmp 110) 22 rfl w6.heap.size 5 Try.underlying22 byteInfo _ T rfl hown' A7 _ c7 F rfl rfl hrd7 HB.out (by omega) ?_; intro v8 w8 hown8 hg8 hat8; rw [HU.out] at hown8; obtain ⟨A8, c8, e8, hc8, hcm8, hrd8⟩ := hown8.slice; rw [HE.out] at e8; subst e8)
                  | fail)
                have kr168 := kr167.grown hg8 (fun e => hneq16 q16 e.symm rfl)
                have hints8 := hints7.keep (fun b hb e => hg8.block b hb (fun e2 => hdis b e2.symm e))
                have c168 : w8.cell? ⟨q16, 0, none⟩ = some (.slice Ai i ci) := (kr168.cell 0).trans rfl
                have hb8 : Below w6.heap.size wr w8 := (hL7.mono hszr).grown hg8 (by omega) hatb1
                have hs78 := hg8.size
                have hdis8 : ∀ k, Value.ownBlock (.slice A8 E c8) = some k → Value.ownBlock (.slice Ai i ci) ≠ some k := fun k e e2 => by
                  rcases hat8 with h | h
                  · exact hdis k (h ▸ e) e2
                  · rw [h] at e
                    have := Option.some.inj e
                    have := hats k e2
                    omega
                have hatb8 := fun k e => (hown8.at_ k e).2
                clear hown' kr167 hints7 hg8 hat8 hrd7 hL7 hdis hrd8 hc8 hcm8 c16r
                go_upto_region 23 with (first
                  | (at_builtin; refine wpList_append_int rfl (.tmp 112) (.tmp 115) rfl w6.heap.size _ zs rfl (hints8.later ((Later.refl w8).alloc (.cells #[.int .i64 E] 3))) w8.heap.size 1 (E : Int) rfl (Row.new w8 _ _) (by rw [HZL.out]; omega) (by simp; omega) ?_; intro v9 w9 hints9 hg9 hat9; have kr169 := (kr168.later ((Later.refl w8).alloc (.cells #[.int .i64 E] 3))).grown hg9 (fun e => by have := hati1 q16 e.symm; omega); have c169 : w9.cell? ⟨q16, 0, none⟩ = some (.slice Ai i ci) := (kr169.cell 0).trans rfl; have f169 : w9.frozen? ⟨q16, 0, none⟩ = false := kr169.frozen 0; obtain ⟨A9, c9, e9, _⟩ := hints9.slice; rw [List.length_append, HZL.out, List.length_singleton] at e9; subst e9)
                  | fail)
                have hs8a : w8.heap.size ≤ (w8.alloc (.cells #[.int .i64 (E : Int)] 3)).heap.size := by simp
                have hb9 : Below w6.heap.size wr w9 := (hb8.alloc (by omega) (.cells #[.int .i64 (E : Int)] 3)).grown hg9 (by omega) hati1
                have hown9 := ((hown8.later ((Later.refl w8).alloc (.cells #[.int .i64 (E : Int)] 3))).keep (fun b hb e => hg9.block b hb (fun e2 => hdis8 b e e2.symm))).keep (w' := w9.setCell ⟨q16, 0, none⟩ (.slice A9 (i + 1) c9)) (fun b hb e => Below.heap_setCell w9 ⟨q16, 0, none⟩ _ b (by have := (hown8.at_ b e).1; show b ≠ q16; omega))
                have hints9' := hints9.keep (w' := w9.setCell ⟨q16, 0, none⟩ (.slice A9 (i + 1) c9)) (fun b hb e => Below.heap_setCell w9 ⟨q16, 0, none⟩ _ b (by have := (hints9.at_ b e).1; show b ≠ q16; omega))
                have hset9 := kr169.set 0 (.slice A9 (i + 1) c9)
                have hdis9 : ∀ k, Value.ownBlock (.slice A8 E c8) = some k → Value.ownBlock (.slice A9 (i + 1) c9) ≠ some k := fun k e e2 => by
                  rcases hat9 with h | h
                  · exact hdis8 k e (h ▸ e2)
                  · rw [h] at e2
                    have := Option.some.inj e2
                    have := hatb8 k e
                    simp at *
                    omega
                have hsfin : Same (fun k => k < w6.heap.size ∧ k ≠ q16) w6 (w9.setCell ⟨q16, 0, none⟩ (.slice A9 (i + 1) c9)) := (hsr.trans ((Same.of_below hb9).mono fun k hk => hk.1)).trans ((Same.set w9 ⟨q16, 0, none⟩ _).mono fun k hk => hk.2)
                have h100' : ∀ t ∈ ts.take (i + 1), t.length ≤ 100 := fun t ht => by
                  rw [HTI.out] at ht
                  rcases List.mem_append.1 ht with h | h
                  · exact h100 t h
                  · obtain rfl : t = x := by simpa using h
                    omega
                clear hown8 hints8 hints9 kr168 kr169 c168 c169 f169 hg9 hat9 hdis8 hb8 hb9 hsr h100
                go_wp2_with fail
                go_roundw
                case rel => exact ⟨i + 1, _, by omega, by go_num, hsfin, by rw [HSN'.out]; exact hown9, hset9, by rw [HZN.out]; exact hints9', hdis9, h100'⟩
                case measure => simp [intOf]; omega
              · have hd1 : decide ((100 : Int) < (xl : Int)) = true := decide_eq_true (by omega)
                have hd1' : decide (100 < xl) = true := decide_eq_true (by omega)
                have hwk := wworks_any wr
                go_wp2_with (first
                  | (go_at_call 9; refine hwk.mono ?_; clear hwk; rintro e w7 ⟨rfl, hL7⟩; have k67 := k6r.later hL7; have c67 : w7.cell? ⟨q + 1, 0, none⟩ = some (.bool false) := (k67.cell 0).trans rfl; have f67 : w7.frozen? ⟨q + 1, 0, none⟩ = false := k67.frozen 0)
                  | fail)
                have hcv : (w7.setCell ⟨q + 1, 0, none⟩ (.bool true)).cell? ⟨q + 1, 0, none⟩ = some (.bool true) := ((k67.set 0 (.bool true)).cell 0).trans rfl
                exact retM (v := .bool true) (by simp [results, Try.results8, go_sem, hcv]) (HΦ.out _ _ ⟨rfl, ((hL1.step hLr).step hL7).setCell (p := ⟨q + 1, 0, none⟩) (by have := HQ.out; show w.heap.size ≤ q + 1; omega) _⟩)
            · obtain rfl : i = n2 := by omega
              have hta : ts.take i = ts := List.take_of_length_le (by rw [HN2.out]; exact Nat.le_refl _)
              rw [hta] at hown h100
              have hBl := Wr.fr_len ts h100
              rw [HN2.out] at hBl
              have hd : decide ((i : Int) < (i : Int)) = false := decide_eq_false (by omega)
              have hd' : decide (i < i) = false := decide_eq_false (by omega)
              have hatb := fun k e => hown.at_ k e
              obtain ⟨A8, c8, e8, hc8, hcm8, hrd8⟩ := hown.slice
              obtain ⟨N8, hN8⟩ : ∃ N, (Wr.fr ts).length = N := ⟨_, rfl⟩
              rw [hN8] at e8 hc8 hBl
              subst e8
              obtain ⟨m1, hm1⟩ : ∃ m, (if cut < (N8 : Int) then cut else (N8 : Int)) = m := ⟨_, rfl⟩
              obtain ⟨Z, hz⟩ : ∃ Z : Nat, (if 0 < m1 then m1 else 0) = (Z : Int) := ⟨(if 0 < m1 then m1 else 0).toNat, by split <;> omega⟩
              have hZ : Z ≤ N8 := by
                split at hm1 <;> split at hz <;> omega
              obtain ⟨zs, hzs⟩ : ∃ zs, (List.range i).map (fun k => (Wr.endOf ts (k + 1) : Int)) = zs := ⟨_, rfl⟩
              have hzl : zs.length = i := by rw [← hzs]; simp
              rw [hzs] at hints
              have hati := fun k e => hints.at_ k e
              obtain ⟨Ai, ci, evi, _⟩ := hints.slice
              rw [hzl] at evi
              subst evi
              have HINT := Lib.hid hints
              have HZS := Lib.hid hzs
              have HZL := Lib.hid hzl
              have HN8 := Lib.hid hN8
              have HBL := Lib.hid hBl
              have HZ := Lib.hid hZ
              have hszr := hsr.size
              clear hzs hzl hta hown hN8 hBl hints hsr
              go_upto_region 33 with fail
              have k20 := Row.new wr 3 #[.int .i64 0]
              have hLa := (Later.refl wr).alloc (.cells #[.int .i64 0] 3)
              have hrd7 := (hrd8.later hLa).take Z
              have hL7 := hLr.step hLa
              have hL7r := hLa
              obtain ⟨q20, hq20⟩ : ∃ x, x = wr.heap.size := ⟨_, rfl⟩
              rw [← hq20] at k20 ⊢
              have hlt20 := k20.lt
              have hq20s : w6.heap.size ≤ q20 := by rw [hq20]; exact hszr
              have HQ20 := Lib.hid hq20
              clear hq20 hLa c4r c6r f6r
              generalize wr.alloc (.cells #[.int .i64 0] 3) = w7 at *
              have hl : ((Wr.fr ts).take Z).length = Z := by rw [List.length_take, HN8.out]; omega
              have HL := Lib.hid hl
              have hfr1 := wFrames_any A8 Z c8 ((Wr.fr ts).take Z) w7 hl (by have := HBL.out; have := HZ.out; omega) hrd7
              have hsl := run_slice_upto (P := Try.prog) (t := 22) (U := 5) (A := A8) (n := N8) (ca := c8) (k := Z) Try.underlying22 byteInfo (by omega)
              clear hrd8 hl hm1 hz
              go_upto_region 35 with (first
                | (go_at_call 33; refine hfr1.mono ?_; clear hfr1; rintro e w8 ⟨gfa, gda, A9, c9, rfl, kfa, hrda, hca, hcma, hga, hgfa, hgda, hgdla, hL8⟩; have hnil := fun W => eqlFuncNil (W := W) (.func 65) #[] #[.pointer (some ⟨gfa, 0, none⟩)])
                | fail)
              have hfr2 := wFrames_any A8 Z c8 ((Wr.fr ts).take Z) w8 HL.out (by have := HBL.out; have := HZ.out; omega) (hrd7.later hL8)
              clear hnil hrd7 kfa hrda hca hcma hga hgfa hgda hgdla
              go_wp2_with (first
                | (go_at_call 33; refine hfr2.mono ?_; clear hfr2; rintro e w9 ⟨gf, gd, A10, c10, rfl, kf, hrd10, hc10, hcm10, hgb10, hgf, hgd, hgdl, hL9⟩)
                | fail)
              have hL79 : Later w7 w9 := Later.step hL8 hL9
              have hL19 : Later w1 w9 := hL7.step hL79
              have hr9 : Later wr w9 := hL7r.step hL79
              have k49 := k4.later hL19
              have k69 := k6.later hL19
              have k169 := kr16.later hr9
              have k209 := k20.later hL79
              have ints9 := HINT.out.later hr9
              have strs9 := hrd.below (hL1.step hL19)
              have hs78 := hL8.size
              have hs19 := hL19.size
              have hs79 := hL79.size
              have hseq := frames1_seq ((Wr.fr ts).take Z) gf gd A10 Z c10 w9 9 (by omega) (fun b => b = q20 ∨ b = q + 1 ∨ b = w9.heap.size + 1) (by rintro b (h | h | h) <;> omega) (by have := kf.lt; rintro (h | h | h) <;> omega) (by rintro (h | h | h) <;> omega) HL.out hc10 (by unfold maxLen at hcm10; omega) hrd10 hgb10 kf hgdl
              have HS := Lib.hid hseq
              have hLw9 := hL1.step hL19
              clear hseq kf hrd10 hc10 hcm10 hgb10 hgf hgd hgdl hL9 hL8 hL79 hL19 hr9 k4 k6 kr16 k20 hL7 hL7r k4r k6r hLr
              refine name_frame fun T0 hT0 => ?_
              refine (wpIn_wide (n := 10)).1 ?_
              refine wpIn_range_W (α := Fr) (Kp := KeepW (fun b => b = q20 ∨ b = q + 1 ∨ b = w9.heap.size + 1)) rfl (by omega) (gf := 65) (lb := #[.pointer (some ⟨gf, 0, none⟩)]) (by rw [hT0]; rfl) trivial (enters_of Try.func65 (by kernel_rfl) rfl)
                HS.out (fun r h => h.elim) (fun h k => h.trans k) (fun x W o => KeepW.put W o (.inr (.inr rfl))) (Below.refl _ _) (fun _ => rfl)
                (fun pre X => pre.length ≤ i ∧ Wr.endOf ts pre.length ≤ Z ∧ Row X q20 3 #[.int .i64 (pre.length : Int)] ∧ Same (fun k => k < w9.heap.size ∧ k ≠ q20) w9 X)
                (fun c _ X => False)
                (fun pre X Y ⟨h1, h2, h3, h4⟩ hs => ⟨h1, h2, h3.same hs ⟨by omega, fun h => h⟩, h4.trans (hs.mono fun k hk => ⟨hk.1, fun h => h⟩)⟩)
                (fun c pre X Y h _ => h)
                ⟨by simp, by simp [Wr.endOf, Wr.fr], k209, Same.refl _ _⟩
                (fun pre x a' X => a' = { tmps := ((((T0.setIfInBounds 131 (.int .i64 x.at_)).setIfInBounds 132 (.slice x.A x.body.length x.c)).setIfInBounds 21 (.int .i64 x.at_)).setIfInBounds 22 (.slice x.A x.body.length x.c)), defers := [] } ∧ FrOk true (w9.heap.size + 2) ((Wr.fr ts).take Z) pre x X)
                (fun pre x a' X o ⟨h1, h2, h3, h4, h5, h6, h7⟩ => ⟨h1, h2, h3, h4, h5.keep (fun b _ e => World.putObj_heap_other (by intro e2; subst e2; have := (h5.at_ _ e).1; omega)), h6, by simpa [World.putObj] using h7⟩) ?assign ?body ?done ?stop
              case assign =>
                intro l0 pre x X K hXs hi hok hK
                have HK := Lib.hid hK
                have HI := Lib.hid hi
                have HOK := Lib.hid hok
                clear hK hi hok
                have e89 : ((#[131, 132] : Array Tmp).zip (frE x)).foldl (fun t (p, v) => t.setIfInBounds p v) T0 = (T0.setIfInBounds 131 (.int .i64 x.at_)).setIfInBounds 132 (.slice x.A x.body.length x.c) := by simp
                rw [e89, hT0]
                clear e89
                simp only [List.setIfInBounds_toArray, List.set_cons_succ, List.set_cons_zero]
                gi_wp2
                exact HK.out _ _ (KeepsFrom.refl _ _) (KeepW.refl _ _ _) HI.out ⟨by rw [hT0]; rfl, HOK.out⟩
              case body =>
                rintro l0 pre x a' X hl hlo hXs ⟨h1, h2, h3, h4⟩ ⟨rfl, hok⟩
                obtain ⟨g1, g2, g3, hown, g5, g6⟩ := hok
                rw [if_pos rfl] at g3
                have hplen : (pre ++ [x]).length = pre.length + 1 := by simp
                obtain ⟨k, hk⟩ : ∃ k, pre.length = k := ⟨_, rfl⟩
                rw [hk] at h1 h2 h3 g1 g2 g3 hplen
                obtain ⟨hkt, hke, hbody, _⟩ := (Wr.goes_at ts h100 Z k (by rw [HN2.out]; exact h1) h2).1 g1
                have hki : k < i := by rw [← HN2.out]; exact hkt
                have hup : x.at_ = (Wr.endOf ts (k + 1) : Int) := g3.trans (Wr.upto_at ts h100 Z (k + 1) (by omega) hke)
                have hzk : zs[k]'(by rw [HZL.out]; exact hki) = (Wr.endOf ts (k + 1) : Int) := by
                  have h := HZS.out
                  subst h
                  simp
                obtain ⟨bi, rfl, _, hbi, hci⟩ := ints9.get k (by rw [HZL.out]; exact hki)
                have hbiw := (hati bi rfl).2
                obtain ⟨bt, ot, rfl, hct⟩ := strs9.at_ (k := k) (by simpa using hkt)
                rw [List.getElem_map] at hct
                rw [hzk] at hci
                obtain ⟨bt', ot', et', hct0⟩ := hrd.at_ (k := k) (by simpa using hkt)
                have hbtw : bt < w.heap.size := by
                  injection et' with et'
                  injection et' with e1 e2
                  subst e1
                  exact block_lt_of_cell hct0
                have hLs := hL1.size
                have hq20w := HQ20.out
                have hqw := HQ.out
                have hcX : X.cell? ⟨bi, k, none⟩ = some (.int .i64 (Wr.endOf ts (k + 1) : Int)) := (World.cell?_of_block (w := w9) (a := ⟨bi, k, none⟩) (h4.block bi ⟨hbi, by omega⟩)).trans hci
                have htX : X.cell? ⟨bt, ot + k, none⟩ = some (.string ⟨ts[k].toArray⟩) := (World.cell?_of_block (w := w9) (a := ⟨bt, ot + k, none⟩) (h4.block bt ⟨by omega, by omega⟩)).trans hct
                have k4X := k49.same h4 ⟨by omega, by omega⟩
                have k16X := k169.same h4 ⟨by omega, by omega⟩
                obtain ⟨xt, hxt⟩ : ∃ y, ts[k] = y := ⟨_, rfl⟩
                rw [hxt] at hbody htX
                obtain ⟨xat, xA, xc, xb, xbase⟩ := x
                simp only at g2 hup hown g5 g6
                obtain rfl : xb = xt := g2.trans hbody
                obtain ⟨E, hE⟩ : ∃ E, Wr.endOf ts (k + 1) = E := ⟨_, rfl⟩
                rw [hE] at hup hcX
                subst hup
                obtain ⟨xA', xc', exA, hxc, hxcm, hrdx⟩ := hown.slice
                obtain ⟨xn, hxn⟩ : ∃ n, xb.length = n := ⟨_, rfl⟩
                have hrdx' : Rd X xA xb := by
                  injection exA with e1
                  rw [e1]
                  exact hrdx
                have HXN := Lib.hid hxn
                have HE := Lib.hid hE
                have HPL := Lib.hid hplen
                have HKE := Lib.hid hke
                rw [hT0]
                simp only [List.setIfInBounds_toArray, List.set_cons_succ, List.set_cons_zero, hxn]
                have hT0' := Lib.hid hT0
                clear hxn hE hplen hke hown exA hxc hxcm hrdx g1 g2 g3 g5 g6 hbody hxt hci hct hct0 et' hzk hT0 hq20w hqw
                have hk9 : (k : Int) + 1 ≤ 9223372036854775807 := by omega
                gi_wp2_with fail
                have WR0 := wide_round l0
                refine wpIn_region_vals WR0 [Pr.eq (.int .i64 (k : Int)), Pr.eq (.slice (some ⟨bt, ot, none⟩) i c2), Pr.eq (.int .i64 (i : Int)), Pr.eq (.bool false), Pr.eq (.bool false), Pr.eq (.int .i64 (E : Int)), Pr.eq (.slice (some ⟨bi, 0, none⟩) i ci), Pr.eq (.int .i64 (k : Int)), Pr.eq (.pointer (some ⟨bi, k, none⟩)), Pr.eq (.int .i64 (E : Int)), Pr.eq (.bool false), Pr.eq (.bool false), Pr.eq (.bool false), Pr.eq (.slice xA xn xc), Pr.eq (.string ⟨xb.toArray⟩), Pr.eq (.slice (some ⟨bt, ot, none⟩) i c2), Pr.eq (.int .i64 (k : Int)), Pr.eq (.pointer (some ⟨bt, ot + k, none⟩)), Pr.eq (.string ⟨xb.toArray⟩), Pr.eq (.bool false), Pr.eq (.bool false)] (by kernel_rfl) (by kernel_rfl) (by kernel_rfl) (by kernel_rfl) (by kernel_rfl) ⟨?_, ?_, ?_, ?_, ?_, ?_, ?_, ?_, ?_, ?_, ?_, ?_, ?_, ?_, ?_, ?_, ?_, ?_, ?_, ?_, ?_, trivial⟩ ?_
                · exact fun ac W hL he => stepOk_want rfl (op_load rfl (he.keep (.tmp 20) (by kernel_rfl)) (loadInt ((h3.later hL).cell 0 |>.trans rfl)) rfl)
                · exact fun ac W hL he => stepOk_want rfl (op_load rfl (he.keep (.tmp 4) (by kernel_rfl)) (loadStrs ((k4X.later hL).cell 0 |>.trans rfl)) rfl)
                · exact fun ac W hL he => stepOk_want rfl (op_len Try.underlying90 rfl (he.get 1 134 (by kernel_rfl) rfl) rfl)
                · exact fun ac W hL he => stepOk_want rfl (op_binOp rfl (he.get 0 133 (by kernel_rfl) rfl) (he.get 2 135 (by kernel_rfl) rfl) rfl (geqI (by omega)) rfl)
                · exact fun ac W hL he => stepOk_want rfl (op_move rfl (he.get 3 136 (by kernel_rfl) rfl))
                · exact fun ac W hL he => stepOk_yes (j := 4) (t := 137) (b := false) rfl rfl (he.get 4 137 (by kernel_rfl) rfl) (op_move rfl (he.keep (.tmp 21) (by kernel_rfl)))
                · exact fun ac W hL he => stepOk_yes (j := 4) (t := 137) (b := false) rfl rfl (he.get 4 137 (by kernel_rfl) rfl) (op_load rfl (he.keep (.tmp 16) (by kernel_rfl)) (loadInts ((k16X.later hL).cell 0 |>.trans rfl)) rfl)
                · exact fun ac W hL he => stepOk_yes (j := 4) (t := 137) (b := false) rfl rfl (he.get 4 137 (by kernel_rfl) rfl) (op_load rfl (he.keep (.tmp 20) (by kernel_rfl)) (loadInt ((h3.later hL).cell 0 |>.trans rfl)) rfl)
                · exact fun ac W hL he => stepOk_yes (j := 4) (t := 137) (b := false) rfl rfl (he.get 4 137 (by kernel_rfl) rfl) (op_idx rfl (he.get 6 139 (by kernel_rfl) rfl) (he.get 7 140 (by kernel_rfl) rfl) (idxInts W hki) rfl)
                · exact fun ac W hL he => stepOk_yes (j := 4) (t := 137) (b := false) rfl rfl (he.get 4 137 (by kernel_rfl) rfl) (op_load rfl (he.get 8 141 (by kernel_rfl) rfl) (loadInt (hL.cell hcX)) rfl)
                · exact fun ac W hL he => stepOk_yes (j := 4) (t := 137) (b := false) rfl rfl (he.get 4 137 (by kernel_rfl) rfl) (op_binOp rfl (he.get 5 138 (by kernel_rfl) rfl) (he.get 9 142 (by kernel_rfl) rfl) eqgI (neqI_me _ _ _) rfl)
                · exact fun ac W hL he => stepOk_want rfl (op_pick (b := false) rfl (he.get 4 137 (by kernel_rfl) rfl) (he.get 10 143 (by kernel_rfl) rfl))
                · exact fun ac W hL he => stepOk_want rfl (op_move rfl (he.get 11 144 (by kernel_rfl) rfl))
                · exact fun ac W hL he => stepOk_yes (j := 12) (t := 145) (b := false) rfl rfl (he.get 12 145 (by kernel_rfl) rfl) (op_move rfl (he.keep (.tmp 22) (by kernel_rfl)))
                · exact fun ac W hL he => stepOk_yes (j := 12) (t := 145) (b := false) rfl rfl (he.get 12 145 (by kernel_rfl) rfl) (op_convert rfl (he.get 13 146 (by kernel_rfl) rfl) (strOf (hrdx'.later hL) HXN.out) (Later.refl _) rfl)
                · exact fun ac W hL he => stepOk_yes (j := 12) (t := 145) (b := false) rfl rfl (he.get 12 145 (by kernel_rfl) rfl) (op_load rfl (he.keep (.tmp 4) (by kernel_rfl)) (loadStrs ((k4X.later hL).cell 0 |>.trans rfl)) rfl)
                · exact fun ac W hL he => stepOk_yes (j := 12) (t := 145) (b := false) rfl rfl (he.get 12 145 (by kernel_rfl) rfl) (op_load rfl (he.keep (.tmp 20) (by kernel_rfl)) (loadInt ((h3.later hL).cell 0 |>.trans rfl)) rfl)
                · exact fun ac W hL he => stepOk_yes (j := 12) (t := 145) (b := false) rfl rfl (he.get 12 145 (by kernel_rfl) rfl) (op_idx rfl (he.get 15 148 (by kernel_rfl) rfl) (he.get 16 149 (by kernel_rfl) rfl) (idxStrs W hki) rfl)
                · exact fun ac W hL he => stepOk_yes (j := 12) (t := 145) (b := false) rfl rfl (he.get 12 145 (by kernel_rfl) rfl) (op_load rfl (he.get 17 150 (by kernel_rfl) rfl) (loadStr (hL.cell htX)) rfl)
                · exact fun ac W hL he => stepOk_yes (j := 12) (t := 145) (b := false) rfl rfl (he.get 12 145 (by kernel_rfl) rfl) (op_binOp rfl (he.get 14 147 (by kernel_rfl) rfl) (he.get 18 151 (by kernel_rfl) rfl) eqgS (neqS_self _ _) rfl)
                · exact fun ac W hL he => stepOk_want rfl (op_pick (b := false) rfl (he.get 12 145 (by kernel_rfl) rfl) (he.get 19 152 (by kernel_rfl) rfl))
                intro zz Wz hL hzz
                have e153 : zz 20 = .bool false := hzz 20 (by decide)
                have k20z := h3.later hL
                have cz : Wz.cell? ⟨q20, 0, none⟩ = some (.int .i64 (k : Int)) := (k20z.cell 0).trans rfl
                have fz : Wz.frozen? ⟨q20, 0, none⟩ = false := k20z.frozen 0
                have hset := k20z.set 0 (.int .i64 ((k : Int) + 1))
                have hkf : KeepsFrom w9.heap.size X (Wz.setCell ⟨q20, 0, none⟩ (.int .i64 ((k : Int) + 1))) := (KeepsFrom.of_later hL).trans (KeepsFrom.of_grownBy (grown_set Wz q20 0 (.int .i64 ((k : Int) + 1))) (fun j e => by cases e; omega))
                have hkw : KeepW (fun b => b = q20 ∨ b = q + 1 ∨ b = w9.heap.size + 1) ⟨(E : Int), xA, xc, xb, xbase⟩ X (Wz.setCell ⟨q20, 0, none⟩ (.int .i64 ((k : Int) + 1))) := (KeepW.of_later hL).trans (KeepW.set Wz ⟨q20, 0, none⟩ _ (.inl rfl))
                have hsz := hL.size
                have hsame : Same (fun k => k < w9.heap.size ∧ k ≠ q20) w9 (Wz.setCell ⟨q20, 0, none⟩ (.int .i64 ((k : Int) + 1))) := (h4.trans ((Same.of_below hL).mono fun k hk => by have := hk.1; have := h4.size; omega)).trans ((Same.set Wz ⟨q20, 0, none⟩ _).mono fun k hk => hk.2)
                have hwr1 : IntKind.i64.wrap ((k : Int) + 1) = (k : Int) + 1 := IntWalk.i64_in _ (by omega)
                have hl1 := loadInt cz
                have hs1 := storeInt (y := (k : Int) + 1) cz fz
                clear hzz hL h3 h4 k4X k16X hcX htX hrdx' k20z
                simp only [putL, Nat.reduceAdd, Act.put, List.setIfInBounds_toArray, List.set_cons_succ, List.set_cons_zero]
                rw [e153]
                gi_wp2_with (first
                  | (refine wpListIn_load rfl 3 (.tmp 20) rfl (.pointer (some ⟨q20, 0, none⟩)) rfl hl1 ?_)
                  | (refine wpListIn_storeR rfl 3 (.tmp 20) (.tmp 155) rfl (.pointer (some ⟨q20, 0, none⟩)) (.int .i64 ((k : Int) + 1)) rfl rfl hs1 ?_)
                  | fail)
                exact ⟨hkf, hkw, by rw [HPL.out]; exact hki, by rw [HPL.out, HE.out]; have := HKE.out; rw [HE.out] at this; exact this, by rw [HPL.out]; exact hset, hsame⟩
              case done =>
                rintro D0 ys X hD hS ⟨h1, h2, h3, h4⟩ hK
                obtain ⟨k, hk⟩ : ∃ k, ys.length = k := ⟨_, rfl⟩
                rw [hk] at h1 h2 h3 hS
                have hz := (Wr.goes_at ts h100 Z k (by rw [HN2.out]; exact h1) h2).2 hS.1
                have hLs := hL1.size
                have hq20w := HQ20.out
                have hqw := HQ.out
                have k4X := k49.same h4 ⟨by omega, by omega⟩
                have k6X := k69.same h4 ⟨by omega, by omega⟩
                have k16X := k169.same h4 ⟨by omega, by omega⟩
                have c4X : X.cell? ⟨q, 0, none⟩ = some (.slice A2 i c2) := (k4X.cell 0).trans rfl
                have c16X : X.cell? ⟨q16, 0, none⟩ = some (.slice Ai i ci) := (k16X.cell 0).trans rfl
                have c20X : X.cell? ⟨q20, 0, none⟩ = some (.int .i64 (k : Int)) := (h3.cell 0).trans rfl
                have hwk := wworks_any X
                have hbX : Below w.heap.size w X := hLw9.trans (((Same.below (h4.mono fun k (hk : k < w.heap.size) => ⟨by have := hLw9.size; omega, by omega⟩))))
                have HBX := Lib.hid hbX
                have hT0' := hT0
                have HS4 := Lib.hid h4
                clear hbX hS h3 h4 k4X k16X k49 k69 k169 k209 hLw9
                rw [hT0]
                rcases hz with hz | ⟨hkt, hcu⟩
                · have hki : k = i := by rw [hz]; exact HN2.out
                  subst hki
                  clear hq20w hqw hz
                  go_wp2_with (first
                    | (go_at_call 9; refine hwk.mono ?_; clear hwk; rintro e w11 ⟨rfl, hL11⟩; have k611 := k6X.later hL11; have c611 : w11.cell? ⟨q + 1, 0, none⟩ = some (.bool false) := (k611.cell 0).trans rfl; have f611 : w11.frozen? ⟨q + 1, 0, none⟩ = false := k611.frozen 0)
                    | fail)
                  have hfin := leaveX (q := q) hK HBX.out k611 hL11 (by have := hLs; have := hD; omega) (by have := HQ.out; omega) (by have := HQ.out; omega)
                  exact leaveM hfin.1 (by simp [results, Try.results8, go_sem, hfin.2.1]) (HΦ.out _ _ ⟨rfl, hfin.2.2⟩)
                · have hki : k < i := by rw [← HN2.out]; exact hkt
                  have hzk : zs[k]'(by rw [HZL.out]; exact hki) = (Wr.endOf ts (k + 1) : Int) := by
                    have h := HZS.out
                    subst h
                    simp
                  obtain ⟨bi, rfl, _, hbi, hci⟩ := ints9.get k (by rw [HZL.out]; exact hki)
                  have hbiw := (hati bi rfl).2
                  rw [hzk] at hci
                  have hcX : X.cell? ⟨bi, k, none⟩ = some (.int .i64 (Wr.endOf ts (k + 1) : Int)) := (World.cell?_of_block (w := w9) (a := ⟨bi, k, none⟩) (HS4.out.block bi ⟨hbi, by omega⟩)).trans hci
                  obtain ⟨E, hE⟩ : ∃ E, Wr.endOf ts (k + 1) = E := ⟨_, rfl⟩
                  rw [hE] at hcX hcu
                  have e1 : ((k : Int) == (i : Int)) = false := by simp; omega
                  have e2 : decide ((Z : Int) < (E : Int)) = true := decide_eq_true (by omega)
                  have e2' : decide (Z < E) = true := decide_eq_true (by omega)
                  clear hq20w hqw hE hzk hci
                  go_wp2_with (first
                    | (go_at_call 9; refine hwk.mono ?_; clear hwk; rintro e w11 ⟨rfl, hL11⟩; have k611 := k6X.later hL11; have c611 : w11.cell? ⟨q + 1, 0, none⟩ = some (.bool false) := (k611.cell 0).trans rfl; have f611 : w11.frozen? ⟨q + 1, 0, none⟩ = false := k611.frozen 0)
                    | fail)
                  have hfin := leaveX (q := q) hK HBX.out k611 hL11 (by have := hLs; have := hD; omega) (by have := HQ.out; omega) (by have := HQ.out; omega)
                  exact leaveM hfin.1 (by simp [results, Try.results8, go_sem, hfin.2.1]) (HΦ.out _ _ ⟨rfl, hfin.2.2⟩)
              case stop => exact fun _ _ _ _ _ _ h _ => h.elim
end Go.Proofs.Ytmipaacobioakaa
