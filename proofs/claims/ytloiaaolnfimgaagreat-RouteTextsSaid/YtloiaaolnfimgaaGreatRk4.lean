/- Walks, route: slices.Backward over edges. -/
import Derived.Test.YtloiaaolnfimgaaGreatRk3
import Derived.Test.YtloiaaolnfimgaaGreatRtP
set_option linter.unusedVariables false
set_option linter.unusedSimpArgs false
namespace Go.Proofs.YtloiaaolnfimgaaGreat
open Go.RowKit Rt
attribute [local go_sem] Oper.semAt_some
section
variable {F : Fence} {n : Nat} {P : Program} {w : World} {ops : Array Oper} {rest : List Oper} {o : Oper} {a : Act} {Q : Exit → Act → World → Prop}
theorem wpListIn_on (hw : Region.wanted o (yielded ops a.tmps) = true) (h : ∀ K : Act → World → Prop, (∀ a w, wpListIn F n P ops Q rest a w → K a w) → o.wpIn F n P a w K Q) : wpListIn F n P ops Q (o :: rest) a w :=
  wpListIn_step fun K hK => by
    rw [if_pos hw]
    exact h K hK
theorem wpListIn_loadG (hw : Region.wanted o (yielded ops a.tmps) = true) (T : TypeId) (x : Operand) (ho : o.op = .load T x) (vx : Value) (hx : a.eval x = vx) {v : Value} {w' : World} (hr : (Instr.loadAt T vx).run P w = .ok v w')
    (h : wpListIn F n P ops Q rest (a.put o.dst v) w') : wpListIn F n P ops Q (o :: rest) a w := by
  refine wpListIn_on hw fun K hK => ?_
  unfold Oper.wpIn
  refine ⟨?_, ?_⟩
  · simp [Oper.about, ho]
  · rw [Oper.semAt_plain F _ _ (by rw [ho]; intro c hc'; cases hc')]
    simp [execOp, ho, hx, hr, Result.andThen]
    exact hK _ _ h
theorem wpListIn_idxG (hw : Region.wanted o (yielded ops a.tmps) = true) (T : TypeId) (x y : Operand) (ho : o.op = .indexAddr T x y) (vx vy : Value) (hx : a.eval x = vx) (hy : a.eval y = vy) {v : Value} {w' : World} (hr : (Instr.indexAt T vx vy).run P w = .ok v w')
    (h : wpListIn F n P ops Q rest (a.put o.dst v) w') : wpListIn F n P ops Q (o :: rest) a w := by
  refine wpListIn_on hw fun K hK => ?_
  unfold Oper.wpIn
  refine ⟨?_, ?_⟩
  · simp [Oper.about, ho]
  · rw [Oper.semAt_plain F _ _ (by rw [ho]; intro c hc'; cases hc')]
    simp [execOp, ho, hx, hy, hr, Result.andThen]
    exact hK _ _ h
end
/-- A round keeps all blocks but those of D. -/
structure KeepB (D : Nat → Prop) (X Y : World) : Prop where
  size : X.heap.size ≤ Y.heap.size
  block : ∀ b, b < X.heap.size → ¬ D b → Y.heap[b]? = X.heap[b]?
theorem KeepB.trans {D : Nat → Prop} {X Y Z : World} (h : KeepB D X Y) (k : KeepB D Y Z) : KeepB D X Z :=
  ⟨Nat.le_trans h.size k.size, fun b hb hd => (k.block b (Nat.lt_of_lt_of_le hb h.size) hd).trans (h.block b hb hd)⟩
theorem KeepB.later {D : Nat → Prop} {X Y : World} (h : Later X Y) : KeepB D X Y := ⟨h.size, fun b hb _ => h.block b hb⟩
theorem KeepB.put {D : Nat → Prop} (X : World) {l : Nat} (o : Obj) (h : D l) : KeepB D X (X.putObj l o) :=
  ⟨by simp [World.putObj], fun b hb hd => World.putObj_heap_other (by intro e; subst e; exact hd h)⟩
theorem KeepB.grown {D : Nat → Prop} {X Y : World} {g : Nat} (h : X.grownBy Y (some g)) (hg : D g) : KeepB D X Y :=
  ⟨h.size, fun b hb hd => h.block b hb (fun e => by cases e; exact hd hg)⟩
theorem KeepB.row {D : Nat → Prop} {X Y : World} {g : Nat} {t : TypeId} {cs : Array Value} (h : KeepB D X Y) (hr : Row X g t cs) (hd : ¬ D g) : Row Y g t cs := (h.block g hr.lt hd).trans hr
theorem KeepB.recs {D : Nat → Prop} {X Y : World} {z : Nat} {A : Option Addr} {ls : List (List Value)} (h : KeepB D X Y) (hr : Recs z X A ls) (hd : ∀ b o, A = some ⟨b, o, none⟩ → ¬ D b) : Recs z Y A ls := fun hne => by
  obtain ⟨b, o, e, hc⟩ := hr hne
  refine ⟨b, o, e, fun i hi j v hj => ?_⟩
  have h1 := hc i hi j v hj
  exact (World.cell?_of_block (h.block b (block_lt_of_cell h1) (hd b o e))).trans h1
theorem Recs.below {z : Nat} {w w' : World} {A : Option Addr} {ls : List (List Value)} (h : Recs z w A ls) (hL : Below w.heap.size w w') : Recs z w' A ls := h.later hL
/-- The element that comes k-th, from behind. -/
def bAt (l : List Rt.Edge) (k : Nat) : Int × Rt.Edge := (((l.length - 1 - k : Nat) : Int), l.getD (l.length - 1 - k) noEdge)
abbrev bE (x : Int × Rt.Edge) : Array Value := #[.int .i64 x.1, .agg (edgeC x.2)]
theorem backE_any (A : Option Addr) (n c : Nat) (w : World) :
    Calls Tryz.prog 49 #[.slice A n c] w fun e w' => e = .returned (.func (.func 100) #[] #[.pointer (some ⟨w.heap.size, 0, none⟩)]) ∧ w' = w.alloc (.cells #[.slice A n c] 40) := by
  have hmf : ∀ (fn : Fn) (first cap : Array Value) (w : World), (Instr.makeFunc fn first cap).run Tryz.prog w = .ok (.func fn first cap) w := fun _ _ _ _ => rfl
  go_enter Tryz.func49, Tryz.ntmps49
  go_wp2
  go_ret
  exact ⟨rfl, rfl⟩
theorem loadEdges {b o : Nat} {v : Value} {W : World} (hc : W.cell? ⟨b, o, none⟩ = some v) : (Instr.loadAt 40 (.pointer (some ⟨b, o, none⟩))).run Tryz.prog W = .ok v W := by
  go_simp
set_option maxRecDepth 100000 in
set_option maxHeartbeats 4000000 in
theorem backE1_seq (l : List Rt.Edge) (hl : ∀ e ∈ l, e.wf) (gb : Nat) (A : Option Addr) (n c : Nat) (w : World) (n1 : Nat) (hn1 : 1 ≤ n1) (D : Nat → Prop) (hDb : ¬ D gb) (hDA : ∀ b o, A = some ⟨b, o, none⟩ → ¬ D b) (hn : l.length = n) (hnm : n ≤ 1000000) (hA : Recs 67 w A (l.map edgeL)) (hk : Row w gb 40 #[.slice A n c]) :
    SeqW Fence.wide n1 Tryz.prog 100 #[.pointer (some ⟨gb, 0, none⟩)] bE (fun _ => KeepB D) (fun xs => xs.length = n) (fun _ => True) (fun pre x _ => pre.length < n ∧ x = bAt l pre.length) (fun _ => False) w := fun k0 J Jx W hW hW2 hJ hJx hY h0 => by
  have hkW := hk.belowAll hW
  have hAW := hA.below hW
  have HY := Lib.hid hY
  have HJ := Lib.hid hJ
  have HN := Lib.hid hn
  have HL := Lib.hid hl
  clear hY hJ hJx hk hA hW hn hl
  refine callsIn_of_wp Tryz.func100 rfl trivial ?_ rfl
  simp only [Tryz.ntmps100, List.size_toArray, List.length_cons, List.length_nil, Nat.reduceAdd, Nat.reduceSub, Array.replicate_succ, Array.replicate_zero, List.push_toArray, List.append_toArray, List.nil_append, List.cons_append]
  have c1 : W.cell? ⟨gb, 0, none⟩ = some (.slice A n c) := (hkW.cell 0).trans rfl
  have e1 : IntKind.i64.wrap ((n : Int) - 1) = (n : Int) - 1 := IntWalk.i64_in _ (by omega)
  gi_wp2
  gi_loopw [3] (fun v wr => ∃ pre : List (Int × Rt.Edge), v = .int .i64 ((n : Int) - 1 - (pre.length : Int)) ∧ pre.length ≤ n ∧ Row wr gb 40 #[.slice A n c] ∧ Recs 67 wr A (l.map edgeL) ∧ J pre wr) (fun v _ => (intOf v + 1).toNat)
  case atStart => exact ⟨[], by simp, by simp, hkW, hAW, h0⟩
  case round =>
    obtain ⟨pre, rfl, hle, hkr, hAr, hJr⟩ := hrel
    clear hkW hAW h0 c1
    by_cases hlt : pre.length < n
    · have hd : decide (((n : Int) - 1 - (pre.length : Int)) ≥ 0) = true := decide_eq_true (by omega)
      have hd' : decide (0 ≤ ((n : Int) - 1 - (pre.length : Int))) = true := decide_eq_true (by omega)
      have hi : n - 1 - pre.length < l.length := by rw [HN.out]; omega
      obtain ⟨b, o, rfl, hcell⟩ := hAr.at_ (k := n - 1 - pre.length) (by simpa using hi)
      rw [List.getElem_map] at hcell
      have hew := HL.out _ (List.getElem_mem hi)
      have hld := loadEdgeM hew hcell
      have hcv : ((n : Int) - 1 - (pre.length : Int)) = ((n - 1 - pre.length : Nat) : Int) := by omega
      have hix := fun W => idxEdge (b := b) (o := o) (n := n) (c := c) (i := n - 1 - pre.length) W (by omega)
      have hx : bAt l pre.length = (((n - 1 - pre.length : Nat) : Int), l[n - 1 - pre.length]) := by
        unfold bAt
        rw [HN.out, getD_lt hi]
      obtain ⟨fn, tmps, assign, body, hy, hR⟩ := HY.out pre (bAt l pre.length) wr hJr ⟨hlt, rfl⟩
      rw [hx] at hy hR
      have c1 : wr.cell? ⟨gb, 0, none⟩ = some (.slice (some ⟨b, o, none⟩) n c) := (hkr.cell 0).trans rfl
      have hls := loadEdges c1
      rw [hcv] at hd hd' ⊢
      have hw63 : ((n - 1 - pre.length : Nat) : Int) < 9223372036854775807 := by omega
      generalize l[n - 1 - pre.length] = ed at *
      generalize hgi : n - 1 - pre.length = i at *
      have HX := Lib.hid hx
      clear hx hcell
      gi_wp2_with (first
        | (refine wpListIn_loadG rfl 40 (.tmp 1) rfl (.pointer (some ⟨gb, 0, none⟩)) rfl hls ?_)
        | (refine wpListIn_idxG rfl 40 (.tmp 13) (.tmp 14) rfl (.slice (some ⟨b, o, none⟩) n c) (.int .i64 (i : Int)) rfl rfl (hix _) ?_)
        | (refine wpListIn_loadG rfl 44 (.tmp 15) rfl (.pointer (some ⟨b, o + i * 67, none⟩)) rfl hld ?_)
        | fail)
      refine hR.mono ?_
      rintro e Y (⟨rfl, hJ5, hk5⟩ | ⟨rfl, hJx5, hk5⟩)
      · have hkr5 := hk5.row hkr hDb
        have hA5 := hk5.recs hAr hDA
        have e2 : IntKind.i64.wrap ((i : Int) - 1) = (i : Int) - 1 := IntWalk.i64_in _ (by omega)
        clear hkr hAr hy hR hk5 hls hix hld
        gi_wp2
        refine ⟨⟨pre ++ [((i : Int), ed)], ?_, ?_, hkr5, hA5, hJ5⟩, ?_⟩
        · rw [List.length_append, List.length_singleton]
          congr 1
          omega
        · rw [List.length_append, List.length_singleton]
          omega
        · simp [intOf]
      · gi_wp2
        refine ⟨rfl, _, results_none rfl _ _ _, ⟨_, rfl⟩, .inr ⟨_, trivial, hJx5⟩⟩
    · have hd : decide (((n : Int) - 1 - (pre.length : Int)) ≥ 0) = false := decide_eq_false (by omega)
      have hd' : decide (0 ≤ ((n : Int) - 1 - (pre.length : Int))) = false := decide_eq_false (by omega)
      gi_wp2
      refine ⟨rfl, _, results_none rfl _ _ _, ⟨_, rfl⟩, .inl ⟨pre, by omega, hJr⟩⟩
end Go.Proofs.YtloiaaolnfimgaaGreat
