/- Walks, msgs: a part is laid. -/
import Derived.Test.YtcajhdmppfiaeaaGreatGk5
set_option linter.unusedVariables false
set_option linter.unusedSimpArgs false
namespace Go.Proofs.YtcajhdmppfiaeaaGreat
open Go.RowKit Ms
theorem buildNum (c : Int) (w : World) : (Instr.buildSlice 85 1 #[(0, numV c)]).run Tryz.prog w = .ok (.slice (some ⟨w.heap.size, 0, none⟩) 1 1) (w.alloc (.cells #[numV c] 2)) := by kernel_rfl
/-- What may be laid. -/
def layOk (s : Said) : Fld → Prop
  | .num j _ => 0 ≤ s.n j ∧ s.n j ≤ 4611686018427387904
  | .hash _ => True
  | .route => s.route.length ≤ 1048576
set_option maxRecDepth 100000 in
theorem layN_any (gw : Nat) (r : Option Nat) (l0 : List UInt8) (g j bt : Nat) (s : Said) (w : World) (hs : s.wf) (h1 : 1 ≤ j) (h2 : j ≤ 11) (h0 : 0 ≤ s.n j) (hm : s.n j ≤ 4611686018427387904) (hl0 : l0.length ≤ 100000000) (hw : IsWr w gw r l0) (hr : Row w g 29 (saidC s)) (hb : Row w bt 128 #[.func (.func (nFn j)) #[] #[]]) :
    Calls Tryz.prog 113 #[.pointer (some ⟨gw, 0, none⟩), .pointer (some ⟨g, 0, none⟩), .pointer (some ⟨bt, 0, none⟩)] w fun e w' => e = .returned (.tuple #[]) ∧ ∃ r', IsWr w' gw r' (l0 ++ Wr.bytes (s.n j).toNat) ∧ Wrote w w' gw r r' := by
  have c1 : w.cell? ⟨bt, 0, none⟩ = some (.func (.func (nFn j)) #[] #[]) := (hb.cell 0).trans rfl
  have hld := loadSaidN hs hr j (by omega)
  have hc := nfn_any g j w h1 h2
  obtain ⟨c, hcn⟩ : ∃ c : Nat, s.n j = (c : Int) := ⟨(s.n j).toNat, by omega⟩
  rw [hcn] at hld h0 hm ⊢
  have hL : Later w (w.alloc (.cells #[numV (c : Int)] 2)) := (Later.refl w).alloc _
  have hnum := wNumber_any gw r l0 (some ⟨w.heap.size, 0, none⟩) 1 1 [(c : Int)] _ rfl (by decide) hl0 (RdV.row (Row.new w 2 #[numV (c : Int)])) (fun b o e _ => by injection e with e; injection e with e _; have := hw.lt; exact ⟨by omega, fun e' => by have := this.2 b e'.symm; omega⟩) (hw.later hL)
  have hnw : [(c : Int)].any Wr.wrong = false := by
    simp [Wr.wrong]
    omega
  have hnb : Wr.nums [(c : Int)] = Wr.bytes ((c : Int).toNat) := by simp [Wr.nums, Wr.nb_nat]
  rw [hnb] at hnum
  have HNUM := Lib.hid hnum
  have HNW := Lib.hid hnw
  have HL := Lib.hid hL
  clear hr hb hw hcn hnb hnw hnum hL
  go_enter Tryz.func113, Tryz.ntmps113
  go_wp2_with (first
    | (guard_target =~ wpList _ _ _ (_ :: _) _ _; refine wpList_callV rfl (.tmp 6) #[.tmp 7] _ rfl (f := nFn j) (bound := #[]) (vs := #[.pointer (some ⟨g, 0, none⟩)]) rfl (by simp only [List.map_toArray, List.map_cons, List.map_nil]; rfl) (nfn_enters j) rfl ?_; refine hc.mono ?_; clear hc; rintro e w1 ⟨rfl, hw1⟩; refine .inl ⟨_, rfl, ?_⟩; subst hw1)
    | (guard_target =~ wpList _ _ _ (_ :: _) _ _; refine wpList_load rfl 2 (.tmp 9) rfl (.pointer (some ⟨g, offN j, none⟩)) rfl hld ?_)
    | (go_at_call 25; refine HNUM.out.mono ?_; rintro e w4 (⟨h, _⟩ | ⟨_, rfl, r', hw4, hwt⟩); · (rw [HNW.out] at h; cases h))
    | fail)
  go_end0
  exact ⟨rfl, r', hw4, Wrote.later0 HL.out hwt⟩
theorem hC_range (s : List UInt8) (hs : s.length ≤ 32) : hC s = ((List.range 32).map fun i => byteV ((s ++ Sha.zeros (32 - s.length)).getD i 0)).toArray := by
  unfold hC
  congr 1
  have hl : (s ++ Sha.zeros (32 - s.length)).length = 32 := by simp [Sha.zeros]; omega
  generalize s ++ Sha.zeros (32 - s.length) = l at *
  apply List.ext_getElem?
  intro i
  rw [List.getElem?_map, List.getElem?_map]
  by_cases hi : i < 32
  · rw [List.getElem?_range hi, List.getElem?_eq_getElem (by omega)]
    simp only [Option.map_some]
    rw [List.getD_eq_getElem?_getD, List.getElem?_eq_getElem (by omega)]
    rfl
  · rw [List.getElem?_eq_none (by omega), List.getElem?_eq_none (by simp; omega)]
    rfl
theorem buildHR (f : Nat → UInt8) (w : World) : (Instr.buildSlice 181 1 #[(0, .agg ((List.range 32).map fun i => byteV (f i)).toArray)]).run Tryz.prog w = .ok (.slice (some ⟨w.heap.size, 0, none⟩) 1 1) (w.alloc (.cells ((List.range 32).map fun i => byteV (f i)).toArray 24)) := by kernel_rfl
theorem buildHs (h : List UInt8) (hl : h.length ≤ 32) (w : World) : (Instr.buildSlice 181 1 #[(0, .agg (hC h))]).run Tryz.prog w = .ok (.slice (some ⟨w.heap.size, 0, none⟩) 1 1) (w.alloc (.cells (hC h) 24)) := by
  rw [hC_range h hl]
  exact buildHR _ w
theorem RdH.new (w : World) (h : List UInt8) : RdH (w.alloc (.cells (hC h) 24)) (some ⟨w.heap.size, 0, none⟩) [h] := fun _ => ⟨w.heap.size, 0, rfl, fun i hi => by
  obtain rfl : i = 0 := by simpa using hi
  exact (Row.new w 24 (hC h)).range 0 _ fun j v hj => by rw [Nat.zero_add, ← Array.getElem?_toList]; exact hj⟩
theorem wpList_bs {P : Program} {w w' : World} {ops : Array Oper} {rest : List Oper} {o : Oper} {a : Act} {Q : Exit → Act → World → Prop} (hgd : o.guard = none) (T n : Nat) (parts : Array (Nat × Operand)) (ho : o.op = .buildSlice T n parts) (vs : Array (Nat × Value)) (hp : (parts.map fun (i, x) => (i, a.eval x)) = vs) {v : Value} (hr : (Instr.buildSlice T n vs).run P w = .ok v w') (h : wpList P ops Q rest (a.put o.dst v) w') : wpList P ops Q (o :: rest) a w := by
  refine wpList_plain hgd fun K hK => ?_
  unfold Oper.wp execOp
  simp only [ho, hp, hr, Sem.run_bind, Sem.run_pure, Result.andThen_ok]
  exact hK _ _ h
set_option maxRecDepth 100000 in
theorem layH_any (gw : Nat) (r : Option Nat) (l0 : List UInt8) (g j bt : Nat) (s : Said) (w : World) (hs : s.wf) (hj : okH j = true) (hl0 : l0.length ≤ 100000000) (hw : IsWr w gw r l0) (hr : Row w g 29 (saidC s)) (hb : Row w bt 131 #[.func (.func (hFn j)) #[] #[]]) :
    Calls Tryz.prog 116 #[.pointer (some ⟨gw, 0, none⟩), .pointer (some ⟨g, 0, none⟩), .pointer (some ⟨bt, 0, none⟩)] w fun e w' => e = .returned (.tuple #[]) ∧ ∃ r', IsWr w' gw r' (l0 ++ s.h j) ∧ Wrote w w' gw r r' := by
  have c1 : w.cell? ⟨bt, 0, none⟩ = some (.func (.func (hFn j)) #[] #[]) := (hb.cell 0).trans rfl
  have hld := loadSaidH hs hr j (okH_lt hj)
  have hc := hfn_any g j w hj
  have h32 : (s.h j).length = 32 := hs j (okH_lt hj)
  generalize s.h j = h at *
  have hL : Later w (w.alloc (.cells (hC h) 24)) := (Later.refl w).alloc _
  have hnum := wHash_any gw r l0 (some ⟨w.heap.size, 0, none⟩) 1 1 [h] _ rfl (by decide) (by simp [h32]) hl0 (RdH.new w h) (fun b o e _ => by injection e with e; injection e with e _; have := hw.lt; exact ⟨by omega, fun e' => by have := this.2 b e'.symm; omega⟩) (hw.later hL)
  have hnb : [h].flatten = h := by simp
  rw [hnb] at hnum
  have hbs := buildHs h (Nat.le_of_eq h32) w
  have HNUM := Lib.hid hnum
  have HL := Lib.hid hL
  clear hr hb hw hnb hnum hL h32
  go_enter Tryz.func116, Tryz.ntmps116
  go_wp2_with (first
    | (guard_target =~ wpList _ _ _ (_ :: _) _ _; refine wpList_callV rfl (.tmp 6) #[.tmp 7] _ rfl (f := hFn j) (bound := #[]) (vs := #[.pointer (some ⟨g, 0, none⟩)]) rfl (by simp only [List.map_toArray, List.map_cons, List.map_nil]; rfl) (hfn_enters j) rfl ?_; refine hc.mono ?_; clear hc; rintro e w1 ⟨rfl, hw1⟩; refine .inl ⟨_, rfl, ?_⟩; subst hw1)
    | (guard_target =~ wpList _ _ _ (_ :: _) _ _; refine wpList_load rfl 24 (.tmp 9) rfl (.pointer (some ⟨g, offH j, none⟩)) rfl hld ?_)
    | (guard_target =~ wpList _ _ _ (_ :: _) _ _; refine wpList_bs rfl 181 1 _ rfl #[(0, .agg (hC h))] (by simp only [List.map_toArray, List.map_cons, List.map_nil]; rfl) hbs ?_)
    | (go_at_call 117; refine HNUM.out.mono ?_; rintro e w4 ⟨rfl, r', hw4, hwt⟩)
    | fail)
  go_end0
  exact ⟨rfl, r', hw4, Wrote.later0 HL.out hwt⟩
set_option maxRecDepth 100000 in
theorem layR_any (gw : Nat) (r : Option Nat) (l0 : List UInt8) (g : Nat) (s : Said) (w : World) (hs : s.wf) (hm : s.route.length ≤ 1048576) (hl0 : l0.length ≤ 100000000) (hw : IsWr w gw r l0) (hr : Row w g 29 (saidC s)) :
    Calls Tryz.prog 122 #[.pointer (some ⟨gw, 0, none⟩), .pointer (some ⟨g, 0, none⟩)] w fun e w' => e = .returned (.tuple #[]) ∧ ∃ r', IsWr w' gw r' (l0 ++ (Wr.bytes s.route.length ++ s.route)) ∧ Wrote w w' gw r r' := by
  have hld := loadSaidR hs hr
  have hnum := wText_any gw r l0 s.route w (by omega) hl0 hw
  generalize s.route = t at *
  have HNUM := Lib.hid hnum
  have HM := Lib.hid hm
  clear hr hw hnum hm
  go_enter Tryz.func122, Tryz.ntmps122
  go_wp2_with (first
    | (guard_target =~ wpList _ _ _ (_ :: _) _ _; refine wpList_load rfl 9 (.tmp 7) rfl (.pointer (some ⟨g, 301, none⟩)) rfl hld ?_)
    | (go_at_call 123; refine HNUM.out.mono ?_; rintro e w4 (⟨h, _⟩ | ⟨_, rfl, r', hw4, hwt⟩); · (have := HM.out; omega))
    | fail)
  go_end0
  exact ⟨rfl, r', hw4, hwt⟩
/-- A part is laid. -/
theorem lay_any (f : Fld) (cs : Array Value) (gw : Nat) (r : Option Nat) (l0 : List UInt8) (g : Nat) (s : Said) (w : World) (hs : s.wf) (hp : PartC w cs f) (ho : layOk s f) (hl0 : l0.length ≤ 100000000) (hw : IsWr w gw r l0) (hr : Row w g 29 (saidC s)) :
    ∃ F caps, cs[0]? = some (.func (.func F) #[] caps) ∧ (∀ args w, (callFunc F args).run Tryz.prog w = .ok (.enter F args) w) ∧ Calls Tryz.prog F (#[.pointer (some ⟨gw, 0, none⟩), .pointer (some ⟨g, 0, none⟩)] ++ caps) w fun e w' => e = .returned (.tuple #[]) ∧ ∃ r', IsWr w' gw r' (l0 ++ lay s f) ∧ Wrote w w' gw r r' := by
  cases f with
  | num j m =>
    obtain ⟨h1, h2, bm, bt, rfl, r1, r2⟩ := hp
    exact ⟨_, _, rfl, enters_of Tryz.func113 (by kernel_rfl) rfl, layN_any gw r l0 g j bt s w hs h1 h2 ho.1 ho.2 hl0 hw hr r2⟩
  | hash j =>
    obtain ⟨h1, bt, rfl, r1⟩ := hp
    exact ⟨_, _, rfl, enters_of Tryz.func116 (by kernel_rfl) rfl, layH_any gw r l0 g j bt s w hs h1 hl0 hw hr r1⟩
  | route =>
    obtain rfl : cs = partR := hp
    exact ⟨_, _, rfl, enters_of Tryz.func122 (by kernel_rfl) rfl, layR_any gw r l0 g s w hs ho hl0 hw hr⟩
end Go.Proofs.YtcajhdmppfiaeaaGreat
