/- Walks, msgs: kinds. -/
import Derived.Test.YtcajhdmppfiaeaaGreatGk3
set_option linter.unusedVariables false
set_option linter.unusedSimpArgs false
namespace Go.Proofs.YtcajhdmppfiaeaaGreat
open Go.RowKit Ms
theorem app_cons {α : Type} (a : α) (l m : List α) : List.append (a :: l) m = a :: List.append l m := rfl
theorem app_nil {α : Type} (m : List α) : List.append [] m = m := rfl
/-- A variable holds a part. -/
def PartAt (W : World) (p : Nat) (f : Fld) : Prop := ∃ cs, Row W p 78 cs ∧ PartC W cs f
theorem PartAt.later {W W' : World} {p : Nat} {f : Fld} (h : PartAt W p f) (k : Later W W') : PartAt W' p f := by
  obtain ⟨cs, h1, h2⟩ := h
  exact ⟨cs, h1.later k, h2.m k.m⟩
theorem PartAt.lt {W : World} {p : Nat} {f : Fld} (h : PartAt W p f) : p < W.heap.size := by
  obtain ⟨cs, h1, h2⟩ := h
  exact h1.lt
theorem PartC.one {W : World} {cs : Array Value} {f : Fld} (h : PartC W cs f) : cs.all (·.oneCell') = true := by
  cases f with
  | num j m => obtain ⟨h1, h2, bm, bt, rfl, r1, r2⟩ := h; simp [partN, Value.oneCell']
  | hash j => obtain ⟨h1, bt, rfl, r1⟩ := h; simp [partH, Value.oneCell']
  | route => subst h; simp [partR, Value.oneCell']
theorem newPart (w : World) {f : Fld} {cs : Array Value} (hp : PartC w cs f) : ∃ w', (Instr.storeAt 78 (.pointer (some ⟨w.heap.size, 0, none⟩)) (.agg cs)).run Tryz.prog (w.alloc (.cells #[.nilFunc, .nilFunc, .nilFunc] 78)) = .ok () w' ∧ PartAt w' w.heap.size f ∧ Later w w' := by
  have hz : cs.size = 3 := by obtain ⟨c0, c1, c2, rfl⟩ := hp.size; rfl
  have hr := Row.new w 78 #[.nilFunc, .nilFunc, .nilFunc]
  have hg := grown_setCells (g := w.heap.size) cs.toList 0 (w.alloc (.cells #[.nilFunc, .nilFunc, .nilFunc] 78))
  have hL : Later w ((w.alloc (.cells #[.nilFunc, .nilFunc, .nilFunc] 78)).setCells w.heap.size 0 cs.toList) := Below.grown ((Later.refl w).alloc _) hg (by simp only [World.size_alloc]; omega) (fun j e => by cases e; exact Nat.le_refl _)
  refine ⟨_, run_store_row hr cs (by rw [hz]; exact infoPart) (by rw [hz]; decide) hp.one, ⟨cs, ?_, hp.m hL.m⟩, hL⟩
  have hr2 := row_setCells cs.toList 0 _ _ hr
  rwa [setFrom_whole _ _ (by rw [Array.length_toList, hz]; rfl), Array.toArray_toList] at hr2
theorem loadPart {W : World} {p : Nat} {f : Fld} {cs : Array Value} (hr : Row W p 78 cs) (hc : PartC W cs f) : (Instr.loadAt 78 (.pointer (some ⟨p, 0, none⟩))).run Tryz.prog W = .ok (.agg cs) W := by
  obtain ⟨c0, c1, c2, rfl⟩ := hc.size
  exact run_load_row hr Tryz.underlying78 rfl infoPart
theorem op_loadPart {Q : Exit → Act → World → Prop} {o : Oper} {a : Act} {W w : World} {p : Nat} {f : Fld} {x : Operand} (ho : o.op = .load 78 x) (hx : a.eval x = .pointer (some ⟨p, 0, none⟩)) (h : PartAt w p f) (hL : Later w W) : o.wp Tryz.prog a W (fun a' W' => ∃ v, a' = a.put o.dst v ∧ Later W W' ∧ (PrM.part f).R v W') Q := by
  obtain ⟨cs, h1, h2⟩ := h.later hL
  exact op_load ho hx (loadPart h1 h2) ⟨cs, rfl, h2⟩
theorem buildP1 (a0 b0 c0 : Value) (w : World) : (Instr.buildSlice 69 1 #[(0, .agg #[a0, b0, c0])]).run Tryz.prog w = .ok (.slice (some ⟨w.heap.size, 0, none⟩) 1 1) (w.alloc (.cells #[a0, b0, c0] 78)) := by kernel_rfl
set_option maxRecDepth 100000 in
theorem parts1 (f0 : Fld) (v0 : Value) (W : World) (h0 : (PrM.part f0).R v0 W) : ∃ W', (Instr.buildSlice 69 1 #[(0, v0)]).run Tryz.prog W = .ok (.slice (some ⟨W.heap.size, 0, none⟩) 1 1) W' ∧ Later W W' ∧ (PrM.parts [f0]).R (.slice (some ⟨W.heap.size, 0, none⟩) 1 1) W' := by
  obtain ⟨x0, rfl, p0⟩ := h0
  obtain ⟨a0, b0, c0, rfl⟩ := p0.size
  have hL : Later W (W.alloc (.cells #[a0, b0, c0] 78)) := (Later.refl W).alloc _
  have hr := Row.new W 78 #[a0, b0, c0]
  refine ⟨_, buildP1 a0 b0 c0 W, hL, W.heap.size, rfl, fun _ => ⟨_, _, rfl, hr, fun i hi => ?_⟩⟩
  rcases i with _ | i
  · exact ⟨_, p0.m hL.m, fun j v e => by rcases j with _ | _ | _ | j <;> first | exact e | cases e⟩
  · exact absurd hi (by simp)
theorem buildP2 (a0 b0 c0 a1 b1 c1 : Value) (w : World) : (Instr.buildSlice 69 2 #[(0, .agg #[a0, b0, c0]), (1, .agg #[a1, b1, c1])]).run Tryz.prog w = .ok (.slice (some ⟨w.heap.size, 0, none⟩) 2 2) (w.alloc (.cells #[a0, b0, c0, a1, b1, c1] 78)) := by kernel_rfl
set_option maxRecDepth 100000 in
theorem parts2 (f0 f1 : Fld) (v0 v1 : Value) (W : World) (h0 : (PrM.part f0).R v0 W) (h1 : (PrM.part f1).R v1 W) : ∃ W', (Instr.buildSlice 69 2 #[(0, v0), (1, v1)]).run Tryz.prog W = .ok (.slice (some ⟨W.heap.size, 0, none⟩) 2 2) W' ∧ Later W W' ∧ (PrM.parts [f0, f1]).R (.slice (some ⟨W.heap.size, 0, none⟩) 2 2) W' := by
  obtain ⟨x0, rfl, p0⟩ := h0
  obtain ⟨a0, b0, c0, rfl⟩ := p0.size
  obtain ⟨x1, rfl, p1⟩ := h1
  obtain ⟨a1, b1, c1, rfl⟩ := p1.size
  have hL : Later W (W.alloc (.cells #[a0, b0, c0, a1, b1, c1] 78)) := (Later.refl W).alloc _
  have hr := Row.new W 78 #[a0, b0, c0, a1, b1, c1]
  refine ⟨_, buildP2 a0 b0 c0 a1 b1 c1 W, hL, W.heap.size, rfl, fun _ => ⟨_, _, rfl, hr, fun i hi => ?_⟩⟩
  rcases i with _ | _ | i
  · exact ⟨_, p0.m hL.m, fun j v e => by rcases j with _ | _ | _ | j <;> first | exact e | cases e⟩
  · exact ⟨_, p1.m hL.m, fun j v e => by rcases j with _ | _ | _ | j <;> first | exact e | cases e⟩
  · exact absurd hi (by simp)
theorem buildP3 (a0 b0 c0 a1 b1 c1 a2 b2 c2 : Value) (w : World) : (Instr.buildSlice 69 3 #[(0, .agg #[a0, b0, c0]), (1, .agg #[a1, b1, c1]), (2, .agg #[a2, b2, c2])]).run Tryz.prog w = .ok (.slice (some ⟨w.heap.size, 0, none⟩) 3 3) (w.alloc (.cells #[a0, b0, c0, a1, b1, c1, a2, b2, c2] 78)) := by kernel_rfl
set_option maxRecDepth 100000 in
theorem parts3 (f0 f1 f2 : Fld) (v0 v1 v2 : Value) (W : World) (h0 : (PrM.part f0).R v0 W) (h1 : (PrM.part f1).R v1 W) (h2 : (PrM.part f2).R v2 W) : ∃ W', (Instr.buildSlice 69 3 #[(0, v0), (1, v1), (2, v2)]).run Tryz.prog W = .ok (.slice (some ⟨W.heap.size, 0, none⟩) 3 3) W' ∧ Later W W' ∧ (PrM.parts [f0, f1, f2]).R (.slice (some ⟨W.heap.size, 0, none⟩) 3 3) W' := by
  obtain ⟨x0, rfl, p0⟩ := h0
  obtain ⟨a0, b0, c0, rfl⟩ := p0.size
  obtain ⟨x1, rfl, p1⟩ := h1
  obtain ⟨a1, b1, c1, rfl⟩ := p1.size
  obtain ⟨x2, rfl, p2⟩ := h2
  obtain ⟨a2, b2, c2, rfl⟩ := p2.size
  have hL : Later W (W.alloc (.cells #[a0, b0, c0, a1, b1, c1, a2, b2, c2] 78)) := (Later.refl W).alloc _
  have hr := Row.new W 78 #[a0, b0, c0, a1, b1, c1, a2, b2, c2]
  refine ⟨_, buildP3 a0 b0 c0 a1 b1 c1 a2 b2 c2 W, hL, W.heap.size, rfl, fun _ => ⟨_, _, rfl, hr, fun i hi => ?_⟩⟩
  rcases i with _ | _ | _ | i
  · exact ⟨_, p0.m hL.m, fun j v e => by rcases j with _ | _ | _ | j <;> first | exact e | cases e⟩
  · exact ⟨_, p1.m hL.m, fun j v e => by rcases j with _ | _ | _ | j <;> first | exact e | cases e⟩
  · exact ⟨_, p2.m hL.m, fun j v e => by rcases j with _ | _ | _ | j <;> first | exact e | cases e⟩
  · exact absurd hi (by simp)
theorem buildP5 (a0 b0 c0 a1 b1 c1 a2 b2 c2 a3 b3 c3 a4 b4 c4 : Value) (w : World) : (Instr.buildSlice 69 5 #[(0, .agg #[a0, b0, c0]), (1, .agg #[a1, b1, c1]), (2, .agg #[a2, b2, c2]), (3, .agg #[a3, b3, c3]), (4, .agg #[a4, b4, c4])]).run Tryz.prog w = .ok (.slice (some ⟨w.heap.size, 0, none⟩) 5 5) (w.alloc (.cells #[a0, b0, c0, a1, b1, c1, a2, b2, c2, a3, b3, c3, a4, b4, c4] 78)) := by kernel_rfl
set_option maxRecDepth 100000 in
theorem parts5 (f0 f1 f2 f3 f4 : Fld) (v0 v1 v2 v3 v4 : Value) (W : World) (h0 : (PrM.part f0).R v0 W) (h1 : (PrM.part f1).R v1 W) (h2 : (PrM.part f2).R v2 W) (h3 : (PrM.part f3).R v3 W) (h4 : (PrM.part f4).R v4 W) : ∃ W', (Instr.buildSlice 69 5 #[(0, v0), (1, v1), (2, v2), (3, v3), (4, v4)]).run Tryz.prog W = .ok (.slice (some ⟨W.heap.size, 0, none⟩) 5 5) W' ∧ Later W W' ∧ (PrM.parts [f0, f1, f2, f3, f4]).R (.slice (some ⟨W.heap.size, 0, none⟩) 5 5) W' := by
  obtain ⟨x0, rfl, p0⟩ := h0
  obtain ⟨a0, b0, c0, rfl⟩ := p0.size
  obtain ⟨x1, rfl, p1⟩ := h1
  obtain ⟨a1, b1, c1, rfl⟩ := p1.size
  obtain ⟨x2, rfl, p2⟩ := h2
  obtain ⟨a2, b2, c2, rfl⟩ := p2.size
  obtain ⟨x3, rfl, p3⟩ := h3
  obtain ⟨a3, b3, c3, rfl⟩ := p3.size
  obtain ⟨x4, rfl, p4⟩ := h4
  obtain ⟨a4, b4, c4, rfl⟩ := p4.size
  have hL : Later W (W.alloc (.cells #[a0, b0, c0, a1, b1, c1, a2, b2, c2, a3, b3, c3, a4, b4, c4] 78)) := (Later.refl W).alloc _
  have hr := Row.new W 78 #[a0, b0, c0, a1, b1, c1, a2, b2, c2, a3, b3, c3, a4, b4, c4]
  refine ⟨_, buildP5 a0 b0 c0 a1 b1 c1 a2 b2 c2 a3 b3 c3 a4 b4 c4 W, hL, W.heap.size, rfl, fun _ => ⟨_, _, rfl, hr, fun i hi => ?_⟩⟩
  rcases i with _ | _ | _ | _ | _ | i
  · exact ⟨_, p0.m hL.m, fun j v e => by rcases j with _ | _ | _ | j <;> first | exact e | cases e⟩
  · exact ⟨_, p1.m hL.m, fun j v e => by rcases j with _ | _ | _ | j <;> first | exact e | cases e⟩
  · exact ⟨_, p2.m hL.m, fun j v e => by rcases j with _ | _ | _ | j <;> first | exact e | cases e⟩
  · exact ⟨_, p3.m hL.m, fun j v e => by rcases j with _ | _ | _ | j <;> first | exact e | cases e⟩
  · exact ⟨_, p4.m hL.m, fun j v e => by rcases j with _ | _ | _ | j <;> first | exact e | cases e⟩
  · exact absurd hi (by simp)
theorem buildP9 (a0 b0 c0 a1 b1 c1 a2 b2 c2 a3 b3 c3 a4 b4 c4 a5 b5 c5 a6 b6 c6 a7 b7 c7 a8 b8 c8 : Value) (w : World) : (Instr.buildSlice 69 9 #[(0, .agg #[a0, b0, c0]), (1, .agg #[a1, b1, c1]), (2, .agg #[a2, b2, c2]), (3, .agg #[a3, b3, c3]), (4, .agg #[a4, b4, c4]), (5, .agg #[a5, b5, c5]), (6, .agg #[a6, b6, c6]), (7, .agg #[a7, b7, c7]), (8, .agg #[a8, b8, c8])]).run Tryz.prog w = .ok (.slice (some ⟨w.heap.size, 0, none⟩) 9 9) (w.alloc (.cells #[a0, b0, c0, a1, b1, c1, a2, b2, c2, a3, b3, c3, a4, b4, c4, a5, b5, c5, a6, b6, c6, a7, b7, c7, a8, b8, c8] 78)) := by kernel_rfl
set_option maxRecDepth 100000 in
theorem parts9 (f0 f1 f2 f3 f4 f5 f6 f7 f8 : Fld) (v0 v1 v2 v3 v4 v5 v6 v7 v8 : Value) (W : World) (h0 : (PrM.part f0).R v0 W) (h1 : (PrM.part f1).R v1 W) (h2 : (PrM.part f2).R v2 W) (h3 : (PrM.part f3).R v3 W) (h4 : (PrM.part f4).R v4 W) (h5 : (PrM.part f5).R v5 W) (h6 : (PrM.part f6).R v6 W) (h7 : (PrM.part f7).R v7 W) (h8 : (PrM.part f8).R v8 W) : ∃ W', (Instr.buildSlice 69 9 #[(0, v0), (1, v1), (2, v2), (3, v3), (4, v4), (5, v5), (6, v6), (7, v7), (8, v8)]).run Tryz.prog W = .ok (.slice (some ⟨W.heap.size, 0, none⟩) 9 9) W' ∧ Later W W' ∧ (PrM.parts [f0, f1, f2, f3, f4, f5, f6, f7, f8]).R (.slice (some ⟨W.heap.size, 0, none⟩) 9 9) W' := by
  obtain ⟨x0, rfl, p0⟩ := h0
  obtain ⟨a0, b0, c0, rfl⟩ := p0.size
  obtain ⟨x1, rfl, p1⟩ := h1
  obtain ⟨a1, b1, c1, rfl⟩ := p1.size
  obtain ⟨x2, rfl, p2⟩ := h2
  obtain ⟨a2, b2, c2, rfl⟩ := p2.size
  obtain ⟨x3, rfl, p3⟩ := h3
  obtain ⟨a3, b3, c3, rfl⟩ := p3.size
  obtain ⟨x4, rfl, p4⟩ := h4
  obtain ⟨a4, b4, c4, rfl⟩ := p4.size
  obtain ⟨x5, rfl, p5⟩ := h5
  obtain ⟨a5, b5, c5, rfl⟩ := p5.size
  obtain ⟨x6, rfl, p6⟩ := h6
  obtain ⟨a6, b6, c6, rfl⟩ := p6.size
  obtain ⟨x7, rfl, p7⟩ := h7
  obtain ⟨a7, b7, c7, rfl⟩ := p7.size
  obtain ⟨x8, rfl, p8⟩ := h8
  obtain ⟨a8, b8, c8, rfl⟩ := p8.size
  have hL : Later W (W.alloc (.cells #[a0, b0, c0, a1, b1, c1, a2, b2, c2, a3, b3, c3, a4, b4, c4, a5, b5, c5, a6, b6, c6, a7, b7, c7, a8, b8, c8] 78)) := (Later.refl W).alloc _
  have hr := Row.new W 78 #[a0, b0, c0, a1, b1, c1, a2, b2, c2, a3, b3, c3, a4, b4, c4, a5, b5, c5, a6, b6, c6, a7, b7, c7, a8, b8, c8]
  refine ⟨_, buildP9 a0 b0 c0 a1 b1 c1 a2 b2 c2 a3 b3 c3 a4 b4 c4 a5 b5 c5 a6 b6 c6 a7 b7 c7 a8 b8 c8 W, hL, W.heap.size, rfl, fun _ => ⟨_, _, rfl, hr, fun i hi => ?_⟩⟩
  rcases i with _ | _ | _ | _ | _ | _ | _ | _ | _ | i
  · exact ⟨_, p0.m hL.m, fun j v e => by rcases j with _ | _ | _ | j <;> first | exact e | cases e⟩
  · exact ⟨_, p1.m hL.m, fun j v e => by rcases j with _ | _ | _ | j <;> first | exact e | cases e⟩
  · exact ⟨_, p2.m hL.m, fun j v e => by rcases j with _ | _ | _ | j <;> first | exact e | cases e⟩
  · exact ⟨_, p3.m hL.m, fun j v e => by rcases j with _ | _ | _ | j <;> first | exact e | cases e⟩
  · exact ⟨_, p4.m hL.m, fun j v e => by rcases j with _ | _ | _ | j <;> first | exact e | cases e⟩
  · exact ⟨_, p5.m hL.m, fun j v e => by rcases j with _ | _ | _ | j <;> first | exact e | cases e⟩
  · exact ⟨_, p6.m hL.m, fun j v e => by rcases j with _ | _ | _ | j <;> first | exact e | cases e⟩
  · exact ⟨_, p7.m hL.m, fun j v e => by rcases j with _ | _ | _ | j <;> first | exact e | cases e⟩
  · exact ⟨_, p8.m hL.m, fun j v e => by rcases j with _ | _ | _ | j <;> first | exact e | cases e⟩
  · exact absurd hi (by simp)
def insK (i : Nat) : Option (Int × Nat) := match i with
  | 12 => some (1, 11)
  | 19 => some (2, 18)
  | 25 => some (3, 24)
  | 30 => some (4, 29)
  | 33 => some (5, 32)
  | 41 => some (6, 40)
  | 47 => some (7, 46)
  | 53 => some (8, 52)
  | 59 => some (9, 58)
  | 66 => some (10, 65)
  | 72 => some (11, 71)
  | 75 => some (12, 74)
  | 81 => some (13, 80)
  | 86 => some (14, 85)
  | _ => none
def invK (k : Int) : Nat := if k = 1 then 12 else if k = 2 then 19 else if k = 3 then 25 else if k = 4 then 30 else if k = 5 then 33 else if k = 6 then 41 else if k = 7 then 47 else if k = 8 then 53 else if k = 9 then 59 else if k = 10 then 66 else if k = 11 then 72 else if k = 12 then 75 else if k = 13 then 81 else if k = 14 then 86 else 0
theorem insK_inv {i : Nat} {k : Int} {j : Nat} (h : insK i = some (k, j)) : i = invK k := by
  unfold insK at h
  split at h
  all_goals first | (cases h; rfl) | cases h
theorem insK_inj (i : Nat) (k : Int) (j : Nat) (h : insK i = some (k, j)) (i' j' : Nat) (h' : insK i' = some (k, j')) : i' = i := (insK_inv h').trans (insK_inv h).symm
theorem insK_lt (i : Nat) (k : Int) (j : Nat) (h : insK i = some (k, j)) : i < 88 := by
  unfold insK at h
  split at h
  all_goals first | decide | cases h
noncomputable def kVs : List PrM := [PrM.any, PrM.part (.num 1 1125899906842624), PrM.part (.num 2 2147483647), PrM.part (.num 3 2147483647), PrM.part (.num 4 2147483647), PrM.part (.hash 1), PrM.part (.num 5 1125899906842624), PrM.part (.num 6 1125899906842624), PrM.part (.hash 3), PrM.part (.hash 4), PrM.parts [.num 1 1125899906842624, .num 2 2147483647, .num 3 2147483647, .num 4 2147483647, .hash 1, .num 5 1125899906842624, .num 6 1125899906842624, .hash 3, .hash 4], PrM.kind ⟨#[111, 112, 101, 110]⟩ 76 [.num 1 1125899906842624, .num 2 2147483647, .num 3 2147483647, .num 4 2147483647, .hash 1, .num 5 1125899906842624, .num 6 1125899906842624, .hash 3, .hash 4], PrM.any, PrM.eq (.func (.func 73) #[] #[]), PrM.part (.hash 5), PrM.part (.hash 3), PrM.part (.hash 4), PrM.parts [.hash 5, .hash 3, .hash 4], PrM.kind ⟨#[97, 99, 99, 101, 112, 116]⟩ 73 [.hash 5, .hash 3, .hash 4], PrM.any, PrM.part (.hash 6), PrM.part (.num 9 2147483647), PrM.part (.hash 7), PrM.parts [.hash 6, .num 9 2147483647, .hash 7], PrM.kind ⟨#[102, 117, 110, 100]⟩ 84 [.hash 6, .num 9 2147483647, .hash 7], PrM.any, PrM.eq (.func (.func 73) #[] #[]), PrM.part (.hash 7), PrM.parts [.hash 7], PrM.kind ⟨#[116, 97, 107, 101]⟩ 73 [.hash 7], PrM.any, PrM.eq (.func (.func 73) #[] #[]), PrM.kind ⟨#[114, 101, 97, 100, 121]⟩ 73 [], PrM.any, PrM.part (.num 7 2147483647), PrM.part (.num 6 1125899906842624), PrM.part (.hash 6), PrM.part (.num 10 2147483647), PrM.part .route, PrM.parts [.num 7 2147483647, .num 6 1125899906842624, .hash 6, .num 10 2147483647, .route], PrM.kind ⟨#[97, 100, 100]⟩ 85 [.num 7 2147483647, .num 6 1125899906842624, .hash 6, .num 10 2147483647, .route], PrM.any, PrM.eq (.func (.func 73) #[] #[]), PrM.part (.num 7 2147483647), PrM.part (.hash 8), PrM.parts [.num 7 2147483647, .hash 8], PrM.kind ⟨#[112, 97, 121]⟩ 73 [.num 7 2147483647, .hash 8], PrM.any, PrM.eq (.func (.func 74) #[] #[]), PrM.part (.num 7 2147483647), PrM.part (.num 11 2147483647), PrM.parts [.num 7 2147483647, .num 11 2147483647], PrM.kind ⟨#[102, 97, 105, 108]⟩ 74 [.num 7 2147483647, .num 11 2147483647], PrM.any, PrM.eq (.func (.func 73) #[] #[]), PrM.part (.num 8 2147483647), PrM.part (.hash 7), PrM.parts [.num 8 2147483647, .hash 7], PrM.kind ⟨#[99, 111, 109, 109, 105, 116]⟩ 73 [.num 8 2147483647, .hash 7], PrM.any, PrM.eq (.func (.func 73) #[] #[]), PrM.part (.num 8 2147483647), PrM.part (.hash 8), PrM.part (.hash 4), PrM.parts [.num 8 2147483647, .hash 8, .hash 4], PrM.kind ⟨#[114, 101, 118, 111, 107, 101]⟩ 73 [.num 8 2147483647, .hash 8, .hash 4], PrM.any, PrM.eq (.func (.func 73) #[] #[]), PrM.part (.num 8 2147483647), PrM.part (.num 7 2147483647), PrM.parts [.num 8 2147483647, .num 7 2147483647], PrM.kind ⟨#[97, 103, 97, 105, 110]⟩ 73 [.num 8 2147483647, .num 7 2147483647], PrM.any, PrM.eq (.func (.func 73) #[] #[]), PrM.kind ⟨#[99, 108, 111, 115, 101]⟩ 73 [], PrM.any, PrM.eq (.func (.func 73) #[] #[]), PrM.part (.num 6 1125899906842624), PrM.part (.hash 7), PrM.parts [.num 6 1125899906842624, .hash 7], PrM.kind ⟨#[111, 102, 102, 101, 114]⟩ 73 [.num 6 1125899906842624, .hash 7], PrM.any, PrM.eq (.func (.func 74) #[] #[]), PrM.part (.num 11 2147483647), PrM.parts [.num 11 2147483647], PrM.kind ⟨#[101, 114, 114, 111, 114]⟩ 74 [.num 11 2147483647], PrM.any, PrM.any]
theorem kVs_ins (i : Nat) (k : Int) (j : Nat) (h : insK i = some (k, j)) (v : Value) (W : World) : VofM kVs i v W := by
  unfold insK at h
  split at h
  all_goals first | exact trivial | cases h
/-- What kinds hold: a name, what they ask besides, what they name. -/
def kName (k : Int) : ByteArray := if k = 1 then ⟨#[111, 112, 101, 110]⟩ else if k = 2 then ⟨#[97, 99, 99, 101, 112, 116]⟩ else if k = 3 then ⟨#[102, 117, 110, 100]⟩ else if k = 4 then ⟨#[116, 97, 107, 101]⟩ else if k = 5 then ⟨#[114, 101, 97, 100, 121]⟩ else if k = 6 then ⟨#[97, 100, 100]⟩ else if k = 7 then ⟨#[112, 97, 121]⟩ else if k = 8 then ⟨#[102, 97, 105, 108]⟩ else if k = 9 then ⟨#[99, 111, 109, 109, 105, 116]⟩ else if k = 10 then ⟨#[114, 101, 118, 111, 107, 101]⟩ else if k = 11 then ⟨#[97, 103, 97, 105, 110]⟩ else if k = 12 then ⟨#[99, 108, 111, 115, 101]⟩ else if k = 13 then ⟨#[111, 102, 102, 101, 114]⟩ else if k = 14 then ⟨#[101, 114, 114, 111, 114]⟩ else ⟨#[]⟩
def kRight (k : Int) : FuncId := if k = 1 then 76 else if k = 2 then 73 else if k = 3 then 84 else if k = 4 then 73 else if k = 5 then 73 else if k = 6 then 85 else if k = 7 then 73 else if k = 8 then 74 else if k = 9 then 73 else if k = 10 then 73 else if k = 11 then 73 else if k = 12 then 73 else if k = 13 then 73 else if k = 14 then 74 else 73
/-- A map of all kinds. -/
def KindsAt (W : World) (m : Nat) : Prop := ∃ φ, MapHas W m φ ∧ (∀ k v, φ k v → isKind k = true ∧ KindV W (kName k) (kRight k) (flds k) v) ∧ ∀ k, isKind k = true → ∃ v, φ k v
theorem kinds_of {W : World} {m : Nat} {xs : Nat → Value} (hM : MapHas W m (InsPhi insK (fun j => decide (j < 88)) xs)) (hx : ∀ j, j < 88 → VofM kVs j (xs j) W) : KindsAt W m := by
  refine ⟨_, hM, ?_, ?_⟩
  · rintro k v ⟨i, j, hi, _, rfl⟩
    unfold insK at hi
    split at hi
    · cases hi; exact ⟨rfl, hx 11 (by decide)⟩
    · cases hi; exact ⟨rfl, hx 18 (by decide)⟩
    · cases hi; exact ⟨rfl, hx 24 (by decide)⟩
    · cases hi; exact ⟨rfl, hx 29 (by decide)⟩
    · cases hi; exact ⟨rfl, hx 32 (by decide)⟩
    · cases hi; exact ⟨rfl, hx 40 (by decide)⟩
    · cases hi; exact ⟨rfl, hx 46 (by decide)⟩
    · cases hi; exact ⟨rfl, hx 52 (by decide)⟩
    · cases hi; exact ⟨rfl, hx 58 (by decide)⟩
    · cases hi; exact ⟨rfl, hx 65 (by decide)⟩
    · cases hi; exact ⟨rfl, hx 71 (by decide)⟩
    · cases hi; exact ⟨rfl, hx 74 (by decide)⟩
    · cases hi; exact ⟨rfl, hx 80 (by decide)⟩
    · cases hi; exact ⟨rfl, hx 85 (by decide)⟩
    · cases hi
  · intro k hk
    simp only [isKind, Bool.and_eq_true, decide_eq_true_eq] at hk
    obtain ⟨h1, h2⟩ := hk
    by_cases e1 : k = 1
    · subst e1; exact ⟨_, 12, 11, rfl, rfl, rfl⟩
    by_cases e2 : k = 2
    · subst e2; exact ⟨_, 19, 18, rfl, rfl, rfl⟩
    by_cases e3 : k = 3
    · subst e3; exact ⟨_, 25, 24, rfl, rfl, rfl⟩
    by_cases e4 : k = 4
    · subst e4; exact ⟨_, 30, 29, rfl, rfl, rfl⟩
    by_cases e5 : k = 5
    · subst e5; exact ⟨_, 33, 32, rfl, rfl, rfl⟩
    by_cases e6 : k = 6
    · subst e6; exact ⟨_, 41, 40, rfl, rfl, rfl⟩
    by_cases e7 : k = 7
    · subst e7; exact ⟨_, 47, 46, rfl, rfl, rfl⟩
    by_cases e8 : k = 8
    · subst e8; exact ⟨_, 53, 52, rfl, rfl, rfl⟩
    by_cases e9 : k = 9
    · subst e9; exact ⟨_, 59, 58, rfl, rfl, rfl⟩
    by_cases e10 : k = 10
    · subst e10; exact ⟨_, 66, 65, rfl, rfl, rfl⟩
    by_cases e11 : k = 11
    · subst e11; exact ⟨_, 72, 71, rfl, rfl, rfl⟩
    by_cases e12 : k = 12
    · subst e12; exact ⟨_, 75, 74, rfl, rfl, rfl⟩
    by_cases e13 : k = 13
    · subst e13; exact ⟨_, 81, 80, rfl, rfl, rfl⟩
    by_cases e14 : k = 14
    · subst e14; exact ⟨_, 86, 85, rfl, rfl, rfl⟩
    omega
set_option maxRecDepth 100000 in
set_option maxHeartbeats 8000000 in
theorem kinds_any (w : World) : Calls Tryz.prog 26 #[] w fun e w' => ∃ m, e = .returned (.map (some m)) ∧ KindsAt w' m ∧ Below w.heap.size w w' ∧ w.heap.size ≤ m := by
  have hb0 := Later.refl w
  go_enter Tryz.func26, Tryz.ntmps26
  go_upto_region 1 with fail
  have hc := mnumber_any 6 1125899906842624 w (by decide) (by decide)
  go_upto_region 2 with (first
    | (go_at_call 61; refine hc.mono ?_; clear hc; rintro e w1 ⟨v, rfl, hL1, cs, rfl, hp⟩; obtain ⟨W1, hst, q1, hL⟩ := newPart w1 hp)
    | (with_reducible refine wpList_alloc rfl 78 rfl (allocPart _) ?_)
    | (guard_target =~ wpList _ _ _ (_ :: _) _ _; refine wpList_store rfl 78 (.tmp 1) (.tmp 13) rfl (.pointer (some ⟨w1.heap.size, 0, none⟩)) (.agg cs) rfl rfl hst ?_)
    | fail)
  have hL := hL1.step hL
  obtain ⟨p1, hp1⟩ : ∃ p, p = w1.heap.size := ⟨_, rfl⟩
  rw [← hp1] at q1 ⊢
  have hb1 := hb0.step hL
  clear hst hp1 hL1 hp hL
  have hc := mnumber_any 7 2147483647 W1 (by decide) (by decide)
  go_upto_region 3 with (first
    | (go_at_call 61; refine hc.mono ?_; clear hc; rintro e w2 ⟨v, rfl, hL2, cs, rfl, hp⟩; obtain ⟨W2, hst, q2, hL⟩ := newPart w2 hp)
    | (with_reducible refine wpList_alloc rfl 78 rfl (allocPart _) ?_)
    | (guard_target =~ wpList _ _ _ (_ :: _) _ _; refine wpList_store rfl 78 (.tmp 2) (.tmp 14) rfl (.pointer (some ⟨w2.heap.size, 0, none⟩)) (.agg cs) rfl rfl hst ?_)
    | fail)
  have hL := hL2.step hL
  obtain ⟨p2, hp2⟩ : ∃ p, p = w2.heap.size := ⟨_, rfl⟩
  rw [← hp2] at q2 ⊢
  have q1 := q1.later hL
  have hb2 := hb1.step hL
  clear hst hp2 hL2 hp hL
  have hc := mnumber_any 8 2147483647 W2 (by decide) (by decide)
  go_upto_region 4 with (first
    | (go_at_call 61; refine hc.mono ?_; clear hc; rintro e w3 ⟨v, rfl, hL3, cs, rfl, hp⟩; obtain ⟨W3, hst, q3, hL⟩ := newPart w3 hp)
    | (with_reducible refine wpList_alloc rfl 78 rfl (allocPart _) ?_)
    | (guard_target =~ wpList _ _ _ (_ :: _) _ _; refine wpList_store rfl 78 (.tmp 3) (.tmp 15) rfl (.pointer (some ⟨w3.heap.size, 0, none⟩)) (.agg cs) rfl rfl hst ?_)
    | fail)
  have hL := hL3.step hL
  obtain ⟨p3, hp3⟩ : ∃ p, p = w3.heap.size := ⟨_, rfl⟩
  rw [← hp3] at q3 ⊢
  have q1 := q1.later hL
  have q2 := q2.later hL
  have hb3 := hb2.step hL
  clear hst hp3 hL3 hp hL
  have hc := mnumber_any 9 2147483647 W3 (by decide) (by decide)
  go_upto_region 5 with (first
    | (go_at_call 61; refine hc.mono ?_; clear hc; rintro e w4 ⟨v, rfl, hL4, cs, rfl, hp⟩; obtain ⟨W4, hst, q4, hL⟩ := newPart w4 hp)
    | (with_reducible refine wpList_alloc rfl 78 rfl (allocPart _) ?_)
    | (guard_target =~ wpList _ _ _ (_ :: _) _ _; refine wpList_store rfl 78 (.tmp 4) (.tmp 16) rfl (.pointer (some ⟨w4.heap.size, 0, none⟩)) (.agg cs) rfl rfl hst ?_)
    | fail)
  have hL := hL4.step hL
  obtain ⟨p4, hp4⟩ : ∃ p, p = w4.heap.size := ⟨_, rfl⟩
  rw [← hp4] at q4 ⊢
  have q1 := q1.later hL
  have q2 := q2.later hL
  have q3 := q3.later hL
  have hb4 := hb3.step hL
  clear hst hp4 hL4 hp hL
  have hc := mnumber_any 11 2147483647 W4 (by decide) (by decide)
  go_upto_region 6 with (first
    | (go_at_call 61; refine hc.mono ?_; clear hc; rintro e w5 ⟨v, rfl, hL5, cs, rfl, hp⟩; obtain ⟨W5, hst, q5, hL⟩ := newPart w5 hp)
    | (with_reducible refine wpList_alloc rfl 78 rfl (allocPart _) ?_)
    | (guard_target =~ wpList _ _ _ (_ :: _) _ _; refine wpList_store rfl 78 (.tmp 5) (.tmp 17) rfl (.pointer (some ⟨w5.heap.size, 0, none⟩)) (.agg cs) rfl rfl hst ?_)
    | fail)
  have hL := hL5.step hL
  obtain ⟨p5, hp5⟩ : ∃ p, p = w5.heap.size := ⟨_, rfl⟩
  rw [← hp5] at q5 ⊢
  have q1 := q1.later hL
  have q2 := q2.later hL
  have q3 := q3.later hL
  have q4 := q4.later hL
  have hb5 := hb4.step hL
  clear hst hp5 hL5 hp hL
  have hc := mhash_any 3 W5 (by decide)
  go_upto_region 7 with (first
    | (go_at_call 67; refine hc.mono ?_; clear hc; rintro e w6 ⟨v, rfl, hL6, cs, rfl, hp⟩; obtain ⟨W6, hst, q6, hL⟩ := newPart w6 hp)
    | (with_reducible refine wpList_alloc rfl 78 rfl (allocPart _) ?_)
    | (guard_target =~ wpList _ _ _ (_ :: _) _ _; refine wpList_store rfl 78 (.tmp 6) (.tmp 18) rfl (.pointer (some ⟨w6.heap.size, 0, none⟩)) (.agg cs) rfl rfl hst ?_)
    | fail)
  have hL := hL6.step hL
  obtain ⟨p6, hp6⟩ : ∃ p, p = w6.heap.size := ⟨_, rfl⟩
  rw [← hp6] at q6 ⊢
  have q1 := q1.later hL
  have q2 := q2.later hL
  have q3 := q3.later hL
  have q4 := q4.later hL
  have q5 := q5.later hL
  have hb6 := hb5.step hL
  clear hst hp6 hL6 hp hL
  have hc := mhash_any 4 W6 (by decide)
  go_upto_region 8 with (first
    | (go_at_call 67; refine hc.mono ?_; clear hc; rintro e w7 ⟨v, rfl, hL7, cs, rfl, hp⟩; obtain ⟨W7, hst, q7, hL⟩ := newPart w7 hp)
    | (with_reducible refine wpList_alloc rfl 78 rfl (allocPart _) ?_)
    | (guard_target =~ wpList _ _ _ (_ :: _) _ _; refine wpList_store rfl 78 (.tmp 7) (.tmp 19) rfl (.pointer (some ⟨w7.heap.size, 0, none⟩)) (.agg cs) rfl rfl hst ?_)
    | fail)
  have hL := hL7.step hL
  obtain ⟨p7, hp7⟩ : ∃ p, p = w7.heap.size := ⟨_, rfl⟩
  rw [← hp7] at q7 ⊢
  have q1 := q1.later hL
  have q2 := q2.later hL
  have q3 := q3.later hL
  have q4 := q4.later hL
  have q5 := q5.later hL
  have q6 := q6.later hL
  have hb7 := hb6.step hL
  clear hst hp7 hL7 hp hL
  have hc := mhash_any 7 W7 (by decide)
  go_upto_region 9 with (first
    | (go_at_call 67; refine hc.mono ?_; clear hc; rintro e w8 ⟨v, rfl, hL8, cs, rfl, hp⟩; obtain ⟨W8, hst, q8, hL⟩ := newPart w8 hp)
    | (with_reducible refine wpList_alloc rfl 78 rfl (allocPart _) ?_)
    | (guard_target =~ wpList _ _ _ (_ :: _) _ _; refine wpList_store rfl 78 (.tmp 8) (.tmp 20) rfl (.pointer (some ⟨w8.heap.size, 0, none⟩)) (.agg cs) rfl rfl hst ?_)
    | fail)
  have hL := hL8.step hL
  obtain ⟨p8, hp8⟩ : ∃ p, p = w8.heap.size := ⟨_, rfl⟩
  rw [← hp8] at q8 ⊢
  have q1 := q1.later hL
  have q2 := q2.later hL
  have q3 := q3.later hL
  have q4 := q4.later hL
  have q5 := q5.later hL
  have q6 := q6.later hL
  have q7 := q7.later hL
  have hb8 := hb7.step hL
  clear hst hp8 hL8 hp hL
  have hc := mhash_any 8 W8 (by decide)
  go_upto_region 10 with (first
    | (go_at_call 67; refine hc.mono ?_; clear hc; rintro e w9 ⟨v, rfl, hL9, cs, rfl, hp⟩; obtain ⟨W9, hst, q9, hL⟩ := newPart w9 hp)
    | (with_reducible refine wpList_alloc rfl 78 rfl (allocPart _) ?_)
    | (guard_target =~ wpList _ _ _ (_ :: _) _ _; refine wpList_store rfl 78 (.tmp 9) (.tmp 21) rfl (.pointer (some ⟨w9.heap.size, 0, none⟩)) (.agg cs) rfl rfl hst ?_)
    | fail)
  have hL := hL9.step hL
  obtain ⟨p9, hp9⟩ : ∃ p, p = w9.heap.size := ⟨_, rfl⟩
  rw [← hp9] at q9 ⊢
  have q1 := q1.later hL
  have q2 := q2.later hL
  have q3 := q3.later hL
  have q4 := q4.later hL
  have q5 := q5.later hL
  have q6 := q6.later hL
  have q7 := q7.later hL
  have q8 := q8.later hL
  have hb9 := hb8.step hL
  clear hst hp9 hL9 hp hL
  have hc := mhash_any 6 W9 (by decide)
  go_upto_region 11 with (first
    | (go_at_call 67; refine hc.mono ?_; clear hc; rintro e w10 ⟨v, rfl, hL10, cs, rfl, hp⟩; obtain ⟨W10, hst, q10, hL⟩ := newPart w10 hp)
    | (with_reducible refine wpList_alloc rfl 78 rfl (allocPart _) ?_)
    | (guard_target =~ wpList _ _ _ (_ :: _) _ _; refine wpList_store rfl 78 (.tmp 10) (.tmp 22) rfl (.pointer (some ⟨w10.heap.size, 0, none⟩)) (.agg cs) rfl rfl hst ?_)
    | fail)
  have hL := hL10.step hL
  obtain ⟨p10, hp10⟩ : ∃ p, p = w10.heap.size := ⟨_, rfl⟩
  rw [← hp10] at q10 ⊢
  have q1 := q1.later hL
  have q2 := q2.later hL
  have q3 := q3.later hL
  have q4 := q4.later hL
  have q5 := q5.later hL
  have q6 := q6.later hL
  have q7 := q7.later hL
  have q8 := q8.later hL
  have q9 := q9.later hL
  have hb10 := hb9.step hL
  clear hst hp10 hL10 hp hL
  go_upto_region 13 with fail
  unfold List.append
  repeat rw [app_cons]
  rw [app_nil]
  refine (wpIn_wide (n := 0)).1 ?_
  refine wpIn_region_map wide_wide Tryz.underlying72 Tryz.underlying22 (VofM kVs) (VofM.st kVs) insK insK_inj rfl kVs_ins (fun _ _ => trivial) 87 (by decide) rfl (fun _ _ => trivial) (by kernel_rfl) (by kernel_rfl) (by kernel_rfl) (by kernel_rfl) (by kernel_rfl) (by kernel_rfl) rfl ⟨?_, ?_, ?_, ?_, ?_, ?_, ?_, ?_, ?_, ?_, ?_, ?_, ?_, ?_, ?_, ?_, ?_, ?_, ?_, ?_, ?_, ?_, ?_, ?_, ?_, ?_, ?_, ?_, ?_, ?_, ?_, ?_, ?_, ?_, ?_, ?_, ?_, ?_, ?_, ?_, ?_, ?_, ?_, ?_, ?_, ?_, ?_, ?_, ?_, ?_, ?_, ?_, ?_, ?_, ?_, ?_, ?_, ?_, ?_, ?_, ?_, ?_, ?_, ?_, ?_, ?_, ?_, ?_, ?_, ?_, ?_, ?_, ?_, ?_, ?_, ?_, ?_, ?_, ?_, ?_, ?_, ?_, ?_, ?_, ?_, ?_, ?_, ?_, trivial⟩ ?_ (by decide) insK_lt (by decide)
  · exact stepM_make rfl rfl rfl
  · exact stepM_plain rfl (by decide) (by decide) fun a W hB he => stepOk_want rfl (op_callF (vs := #[.int .i64 1125899906842624, .func (.func (nFn 1)) #[] #[]]) rfl (by simp only [List.map_toArray, List.map_cons, List.map_nil]; rfl) (enters_of Tryz.func61 (by kernel_rfl) rfl) (mnumber_any 1 1125899906842624 W (by decide) (by decide)))
  · exact stepM_plain rfl (by decide) (by decide) fun a W hB he => stepOk_want rfl (op_callF (vs := #[.int .i64 2147483647, .func (.func (nFn 2)) #[] #[]]) rfl (by simp only [List.map_toArray, List.map_cons, List.map_nil]; rfl) (enters_of Tryz.func61 (by kernel_rfl) rfl) (mnumber_any 2 2147483647 W (by decide) (by decide)))
  · exact stepM_plain rfl (by decide) (by decide) fun a W hB he => stepOk_want rfl (op_callF (vs := #[.int .i64 2147483647, .func (.func (nFn 3)) #[] #[]]) rfl (by simp only [List.map_toArray, List.map_cons, List.map_nil]; rfl) (enters_of Tryz.func61 (by kernel_rfl) rfl) (mnumber_any 3 2147483647 W (by decide) (by decide)))
  · exact stepM_plain rfl (by decide) (by decide) fun a W hB he => stepOk_want rfl (op_callF (vs := #[.int .i64 2147483647, .func (.func (nFn 4)) #[] #[]]) rfl (by simp only [List.map_toArray, List.map_cons, List.map_nil]; rfl) (enters_of Tryz.func61 (by kernel_rfl) rfl) (mnumber_any 4 2147483647 W (by decide) (by decide)))
  · exact stepM_plain rfl (by decide) (by decide) fun a W hB he => stepOk_want rfl (op_callF (vs := #[.func (.func (hFn 1)) #[] #[]]) rfl (by simp only [List.map_toArray, List.map_cons, List.map_nil]; rfl) (enters_of Tryz.func67 (by kernel_rfl) rfl) (mhash_any 1 W (by decide)))
  · exact stepM_plain rfl (by decide) (by decide) fun a W hB he => stepOk_want rfl (op_callF (vs := #[.int .i64 1125899906842624, .func (.func (nFn 5)) #[] #[]]) rfl (by simp only [List.map_toArray, List.map_cons, List.map_nil]; rfl) (enters_of Tryz.func61 (by kernel_rfl) rfl) (mnumber_any 5 1125899906842624 W (by decide) (by decide)))
  · exact stepM_plain rfl (by decide) (by decide) fun a W hB he => stepOk_want rfl (op_loadPart rfl (he.keep (.tmp 1) (by kernel_rfl)) q1 hB)
  · exact stepM_plain rfl (by decide) (by decide) fun a W hB he => stepOk_want rfl (op_loadPart rfl (he.keep (.tmp 6) (by kernel_rfl)) q6 hB)
  · exact stepM_plain rfl (by decide) (by decide) fun a W hB he => stepOk_want rfl (op_loadPart rfl (he.keep (.tmp 7) (by kernel_rfl)) q7 hB)
  · refine stepM_plain rfl (by decide) (by decide) fun a W hB he => stepOk_want rfl ?_; obtain ⟨W1, hr, hL, hR⟩ := parts9 (.num 1 1125899906842624) (.num 2 2147483647) (.num 3 2147483647) (.num 4 2147483647) (.hash 1) (.num 5 1125899906842624) (.num 6 1125899906842624) (.hash 3) (.hash 4) (a.eval (.tmp 24)) (a.eval (.tmp 25)) (a.eval (.tmp 26)) (a.eval (.tmp 27)) (a.eval (.tmp 28)) (a.eval (.tmp 29)) (a.eval (.tmp 30)) (a.eval (.tmp 31)) (a.eval (.tmp 32)) W (show (PrM.part (.num 1 1125899906842624)).R (a.eval (.tmp 24)) W from (he.get 1 24 (by kernel_rfl) rfl)) (show (PrM.part (.num 2 2147483647)).R (a.eval (.tmp 25)) W from (he.get 2 25 (by kernel_rfl) rfl)) (show (PrM.part (.num 3 2147483647)).R (a.eval (.tmp 26)) W from (he.get 3 26 (by kernel_rfl) rfl)) (show (PrM.part (.num 4 2147483647)).R (a.eval (.tmp 27)) W from (he.get 4 27 (by kernel_rfl) rfl)) (show (PrM.part (.hash 1)).R (a.eval (.tmp 28)) W from (he.get 5 28 (by kernel_rfl) rfl)) (show (PrM.part (.num 5 1125899906842624)).R (a.eval (.tmp 29)) W from (he.get 6 29 (by kernel_rfl) rfl)) (show (PrM.part (.num 6 1125899906842624)).R (a.eval (.tmp 30)) W from (he.get 7 30 (by kernel_rfl) rfl)) (show (PrM.part (.hash 3)).R (a.eval (.tmp 31)) W from (he.get 8 31 (by kernel_rfl) rfl)) (show (PrM.part (.hash 4)).R (a.eval (.tmp 32)) W from (he.get 9 32 (by kernel_rfl) rfl)); exact op_buildSlice rfl (by simp only [List.map_toArray, List.map_cons, List.map_nil]) hr hL hR
  · refine stepM_plain rfl (by decide) (by decide) fun a W hB he => stepOk_want rfl ?_; obtain ⟨b, e2, hP⟩ : ∃ b, a.eval (.tmp 33) = .slice (some ⟨b, 0, none⟩) 9 9 ∧ RdP W (some ⟨b, 0, none⟩) [.num 1 1125899906842624, .num 2 2147483647, .num 3 2147483647, .num 4 2147483647, .hash 1, .num 5 1125899906842624, .num 6 1125899906842624, .hash 3, .hash 4] := (he.get 10 33 (by kernel_rfl) rfl); exact op_callF (vs := #[.string ⟨#[111, 112, 101, 110]⟩, .func (.func 76) #[] #[], .slice (some ⟨b, 0, none⟩) 9 9]) rfl (by simp only [List.map_toArray, List.map_cons, List.map_nil, e2, (show a.eval (.const (.string ⟨#[111, 112, 101, 110]⟩)) = .string ⟨#[111, 112, 101, 110]⟩ from rfl), (show a.eval (.func 76) = .func (.func 76) #[] #[] from rfl)]) (enters_of Tryz.func75 (by kernel_rfl) rfl) (mof_kind ⟨#[111, 112, 101, 110]⟩ 76 [.num 1 1125899906842624, .num 2 2147483647, .num 3 2147483647, .num 4 2147483647, .hash 1, .num 5 1125899906842624, .num 6 1125899906842624, .hash 3, .hash 4] (some ⟨b, 0, none⟩) W hP)
  · exact stepM_ins rfl rfl (by kernel_rfl) (by kernel_rfl) rfl rfl rfl
  · exact stepM_plain rfl (by decide) (by decide) fun a W hB he => stepOk_want rfl (op_move rfl (he.keep (.tmp 11) (by kernel_rfl)))
  · exact stepM_plain rfl (by decide) (by decide) fun a W hB he => stepOk_want rfl (op_callF (vs := #[.func (.func (hFn 5)) #[] #[]]) rfl (by simp only [List.map_toArray, List.map_cons, List.map_nil]; rfl) (enters_of Tryz.func67 (by kernel_rfl) rfl) (mhash_any 5 W (by decide)))
  · exact stepM_plain rfl (by decide) (by decide) fun a W hB he => stepOk_want rfl (op_loadPart rfl (he.keep (.tmp 6) (by kernel_rfl)) q6 hB)
  · exact stepM_plain rfl (by decide) (by decide) fun a W hB he => stepOk_want rfl (op_loadPart rfl (he.keep (.tmp 7) (by kernel_rfl)) q7 hB)
  · refine stepM_plain rfl (by decide) (by decide) fun a W hB he => stepOk_want rfl ?_; obtain ⟨W1, hr, hL, hR⟩ := parts3 (.hash 5) (.hash 3) (.hash 4) (a.eval (.tmp 36)) (a.eval (.tmp 37)) (a.eval (.tmp 38)) W (show (PrM.part (.hash 5)).R (a.eval (.tmp 36)) W from (he.get 14 36 (by kernel_rfl) rfl)) (show (PrM.part (.hash 3)).R (a.eval (.tmp 37)) W from (he.get 15 37 (by kernel_rfl) rfl)) (show (PrM.part (.hash 4)).R (a.eval (.tmp 38)) W from (he.get 16 38 (by kernel_rfl) rfl)); exact op_buildSlice rfl (by simp only [List.map_toArray, List.map_cons, List.map_nil]) hr hL hR
  · refine stepM_plain rfl (by decide) (by decide) fun a W hB he => stepOk_want rfl ?_; have e1 : a.eval (.tmp 35) = .func (.func 73) #[] #[] := (he.get 13 35 (by kernel_rfl) rfl); obtain ⟨b, e2, hP⟩ : ∃ b, a.eval (.tmp 39) = .slice (some ⟨b, 0, none⟩) 3 3 ∧ RdP W (some ⟨b, 0, none⟩) [.hash 5, .hash 3, .hash 4] := (he.get 17 39 (by kernel_rfl) rfl); exact op_callF (vs := #[.string ⟨#[97, 99, 99, 101, 112, 116]⟩, .func (.func 73) #[] #[], .slice (some ⟨b, 0, none⟩) 3 3]) rfl (by simp only [List.map_toArray, List.map_cons, List.map_nil, e1, e2, (show a.eval (.const (.string ⟨#[97, 99, 99, 101, 112, 116]⟩)) = .string ⟨#[97, 99, 99, 101, 112, 116]⟩ from rfl)]) (enters_of Tryz.func75 (by kernel_rfl) rfl) (mof_kind ⟨#[97, 99, 99, 101, 112, 116]⟩ 73 [.hash 5, .hash 3, .hash 4] (some ⟨b, 0, none⟩) W hP)
  · exact stepM_ins rfl rfl (by kernel_rfl) (by kernel_rfl) rfl rfl rfl
  · exact stepM_plain rfl (by decide) (by decide) fun a W hB he => stepOk_want rfl (op_loadPart rfl (he.keep (.tmp 10) (by kernel_rfl)) q10 hB)
  · exact stepM_plain rfl (by decide) (by decide) fun a W hB he => stepOk_want rfl (op_loadPart rfl (he.keep (.tmp 4) (by kernel_rfl)) q4 hB)
  · exact stepM_plain rfl (by decide) (by decide) fun a W hB he => stepOk_want rfl (op_loadPart rfl (he.keep (.tmp 8) (by kernel_rfl)) q8 hB)
  · refine stepM_plain rfl (by decide) (by decide) fun a W hB he => stepOk_want rfl ?_; obtain ⟨W1, hr, hL, hR⟩ := parts3 (.hash 6) (.num 9 2147483647) (.hash 7) (a.eval (.tmp 41)) (a.eval (.tmp 42)) (a.eval (.tmp 43)) W (show (PrM.part (.hash 6)).R (a.eval (.tmp 41)) W from (he.get 20 41 (by kernel_rfl) rfl)) (show (PrM.part (.num 9 2147483647)).R (a.eval (.tmp 42)) W from (he.get 21 42 (by kernel_rfl) rfl)) (show (PrM.part (.hash 7)).R (a.eval (.tmp 43)) W from (he.get 22 43 (by kernel_rfl) rfl)); exact op_buildSlice rfl (by simp only [List.map_toArray, List.map_cons, List.map_nil]) hr hL hR
  · refine stepM_plain rfl (by decide) (by decide) fun a W hB he => stepOk_want rfl ?_; obtain ⟨b, e2, hP⟩ : ∃ b, a.eval (.tmp 44) = .slice (some ⟨b, 0, none⟩) 3 3 ∧ RdP W (some ⟨b, 0, none⟩) [.hash 6, .num 9 2147483647, .hash 7] := (he.get 23 44 (by kernel_rfl) rfl); exact op_callF (vs := #[.string ⟨#[102, 117, 110, 100]⟩, .func (.func 84) #[] #[], .slice (some ⟨b, 0, none⟩) 3 3]) rfl (by simp only [List.map_toArray, List.map_cons, List.map_nil, e2, (show a.eval (.const (.string ⟨#[102, 117, 110, 100]⟩)) = .string ⟨#[102, 117, 110, 100]⟩ from rfl), (show a.eval (.func 84) = .func (.func 84) #[] #[] from rfl)]) (enters_of Tryz.func75 (by kernel_rfl) rfl) (mof_kind ⟨#[102, 117, 110, 100]⟩ 84 [.hash 6, .num 9 2147483647, .hash 7] (some ⟨b, 0, none⟩) W hP)
  · exact stepM_ins rfl rfl (by kernel_rfl) (by kernel_rfl) rfl rfl rfl
  · exact stepM_plain rfl (by decide) (by decide) fun a W hB he => stepOk_want rfl (op_move rfl (he.keep (.tmp 11) (by kernel_rfl)))
  · exact stepM_plain rfl (by decide) (by decide) fun a W hB he => stepOk_want rfl (op_loadPart rfl (he.keep (.tmp 8) (by kernel_rfl)) q8 hB)
  · refine stepM_plain rfl (by decide) (by decide) fun a W hB he => stepOk_want rfl ?_; obtain ⟨W1, hr, hL, hR⟩ := parts1 (.hash 7) (a.eval (.tmp 47)) W (show (PrM.part (.hash 7)).R (a.eval (.tmp 47)) W from (he.get 27 47 (by kernel_rfl) rfl)); exact op_buildSlice rfl (by simp only [List.map_toArray, List.map_cons, List.map_nil]) hr hL hR
  · refine stepM_plain rfl (by decide) (by decide) fun a W hB he => stepOk_want rfl ?_; have e1 : a.eval (.tmp 46) = .func (.func 73) #[] #[] := (he.get 26 46 (by kernel_rfl) rfl); obtain ⟨b, e2, hP⟩ : ∃ b, a.eval (.tmp 48) = .slice (some ⟨b, 0, none⟩) 1 1 ∧ RdP W (some ⟨b, 0, none⟩) [.hash 7] := (he.get 28 48 (by kernel_rfl) rfl); exact op_callF (vs := #[.string ⟨#[116, 97, 107, 101]⟩, .func (.func 73) #[] #[], .slice (some ⟨b, 0, none⟩) 1 1]) rfl (by simp only [List.map_toArray, List.map_cons, List.map_nil, e1, e2, (show a.eval (.const (.string ⟨#[116, 97, 107, 101]⟩)) = .string ⟨#[116, 97, 107, 101]⟩ from rfl)]) (enters_of Tryz.func75 (by kernel_rfl) rfl) (mof_kind ⟨#[116, 97, 107, 101]⟩ 73 [.hash 7] (some ⟨b, 0, none⟩) W hP)
  · exact stepM_ins rfl rfl (by kernel_rfl) (by kernel_rfl) rfl rfl rfl
  · exact stepM_plain rfl (by decide) (by decide) fun a W hB he => stepOk_want rfl (op_move rfl (he.keep (.tmp 11) (by kernel_rfl)))
  · refine stepM_plain rfl (by decide) (by decide) fun a W hB he => stepOk_want rfl ?_; have e1 : a.eval (.tmp 50) = .func (.func 73) #[] #[] := (he.get 31 50 (by kernel_rfl) rfl); exact op_callF (vs := #[.string ⟨#[114, 101, 97, 100, 121]⟩, .func (.func 73) #[] #[], .slice none 0 0]) rfl (by simp only [List.map_toArray, List.map_cons, List.map_nil, e1, (show a.eval (.const (.string ⟨#[114, 101, 97, 100, 121]⟩)) = .string ⟨#[114, 101, 97, 100, 121]⟩ from rfl), (show a.eval (.const (.slice none 0 0)) = .slice none 0 0 from rfl)]) (enters_of Tryz.func75 (by kernel_rfl) rfl) (mof_kind ⟨#[114, 101, 97, 100, 121]⟩ 73 [] none W (fun h => absurd rfl h))
  · exact stepM_ins rfl rfl (by kernel_rfl) (by kernel_rfl) rfl rfl rfl
  · exact stepM_plain rfl (by decide) (by decide) fun a W hB he => stepOk_want rfl (op_loadPart rfl (he.keep (.tmp 2) (by kernel_rfl)) q2 hB)
  · exact stepM_plain rfl (by decide) (by decide) fun a W hB he => stepOk_want rfl (op_loadPart rfl (he.keep (.tmp 1) (by kernel_rfl)) q1 hB)
  · exact stepM_plain rfl (by decide) (by decide) fun a W hB he => stepOk_want rfl (op_loadPart rfl (he.keep (.tmp 10) (by kernel_rfl)) q10 hB)
  · exact stepM_plain rfl (by decide) (by decide) fun a W hB he => stepOk_want rfl (op_callF (vs := #[.int .i64 2147483647, .func (.func (nFn 10)) #[] #[]]) rfl (by simp only [List.map_toArray, List.map_cons, List.map_nil]; rfl) (enters_of Tryz.func61 (by kernel_rfl) rfl) (mnumber_any 10 2147483647 W (by decide) (by decide)))
  · exact stepM_plain rfl (by decide) (by decide) fun a W hB he => stepOk_want rfl (op_callF (vs := #[]) rfl (by simp only [List.map_toArray, List.map_nil]) (enters_of Tryz.func87 (by kernel_rfl) rfl) (mroute_part W))
  · refine stepM_plain rfl (by decide) (by decide) fun a W hB he => stepOk_want rfl ?_; obtain ⟨W1, hr, hL, hR⟩ := parts5 (.num 7 2147483647) (.num 6 1125899906842624) (.hash 6) (.num 10 2147483647) (.route) (a.eval (.tmp 52)) (a.eval (.tmp 53)) (a.eval (.tmp 54)) (a.eval (.tmp 55)) (a.eval (.tmp 56)) W (show (PrM.part (.num 7 2147483647)).R (a.eval (.tmp 52)) W from (he.get 34 52 (by kernel_rfl) rfl)) (show (PrM.part (.num 6 1125899906842624)).R (a.eval (.tmp 53)) W from (he.get 35 53 (by kernel_rfl) rfl)) (show (PrM.part (.hash 6)).R (a.eval (.tmp 54)) W from (he.get 36 54 (by kernel_rfl) rfl)) (show (PrM.part (.num 10 2147483647)).R (a.eval (.tmp 55)) W from (he.get 37 55 (by kernel_rfl) rfl)) (show (PrM.part (.route)).R (a.eval (.tmp 56)) W from (he.get 38 56 (by kernel_rfl) rfl)); exact op_buildSlice rfl (by simp only [List.map_toArray, List.map_cons, List.map_nil]) hr hL hR
  · refine stepM_plain rfl (by decide) (by decide) fun a W hB he => stepOk_want rfl ?_; obtain ⟨b, e2, hP⟩ : ∃ b, a.eval (.tmp 57) = .slice (some ⟨b, 0, none⟩) 5 5 ∧ RdP W (some ⟨b, 0, none⟩) [.num 7 2147483647, .num 6 1125899906842624, .hash 6, .num 10 2147483647, .route] := (he.get 39 57 (by kernel_rfl) rfl); exact op_callF (vs := #[.string ⟨#[97, 100, 100]⟩, .func (.func 85) #[] #[], .slice (some ⟨b, 0, none⟩) 5 5]) rfl (by simp only [List.map_toArray, List.map_cons, List.map_nil, e2, (show a.eval (.const (.string ⟨#[97, 100, 100]⟩)) = .string ⟨#[97, 100, 100]⟩ from rfl), (show a.eval (.func 85) = .func (.func 85) #[] #[] from rfl)]) (enters_of Tryz.func75 (by kernel_rfl) rfl) (mof_kind ⟨#[97, 100, 100]⟩ 85 [.num 7 2147483647, .num 6 1125899906842624, .hash 6, .num 10 2147483647, .route] (some ⟨b, 0, none⟩) W hP)
  · exact stepM_ins rfl rfl (by kernel_rfl) (by kernel_rfl) rfl rfl rfl
  · exact stepM_plain rfl (by decide) (by decide) fun a W hB he => stepOk_want rfl (op_move rfl (he.keep (.tmp 11) (by kernel_rfl)))
  · exact stepM_plain rfl (by decide) (by decide) fun a W hB he => stepOk_want rfl (op_loadPart rfl (he.keep (.tmp 2) (by kernel_rfl)) q2 hB)
  · exact stepM_plain rfl (by decide) (by decide) fun a W hB he => stepOk_want rfl (op_loadPart rfl (he.keep (.tmp 9) (by kernel_rfl)) q9 hB)
  · refine stepM_plain rfl (by decide) (by decide) fun a W hB he => stepOk_want rfl ?_; obtain ⟨W1, hr, hL, hR⟩ := parts2 (.num 7 2147483647) (.hash 8) (a.eval (.tmp 60)) (a.eval (.tmp 61)) W (show (PrM.part (.num 7 2147483647)).R (a.eval (.tmp 60)) W from (he.get 43 60 (by kernel_rfl) rfl)) (show (PrM.part (.hash 8)).R (a.eval (.tmp 61)) W from (he.get 44 61 (by kernel_rfl) rfl)); exact op_buildSlice rfl (by simp only [List.map_toArray, List.map_cons, List.map_nil]) hr hL hR
  · refine stepM_plain rfl (by decide) (by decide) fun a W hB he => stepOk_want rfl ?_; have e1 : a.eval (.tmp 59) = .func (.func 73) #[] #[] := (he.get 42 59 (by kernel_rfl) rfl); obtain ⟨b, e2, hP⟩ : ∃ b, a.eval (.tmp 62) = .slice (some ⟨b, 0, none⟩) 2 2 ∧ RdP W (some ⟨b, 0, none⟩) [.num 7 2147483647, .hash 8] := (he.get 45 62 (by kernel_rfl) rfl); exact op_callF (vs := #[.string ⟨#[112, 97, 121]⟩, .func (.func 73) #[] #[], .slice (some ⟨b, 0, none⟩) 2 2]) rfl (by simp only [List.map_toArray, List.map_cons, List.map_nil, e1, e2, (show a.eval (.const (.string ⟨#[112, 97, 121]⟩)) = .string ⟨#[112, 97, 121]⟩ from rfl)]) (enters_of Tryz.func75 (by kernel_rfl) rfl) (mof_kind ⟨#[112, 97, 121]⟩ 73 [.num 7 2147483647, .hash 8] (some ⟨b, 0, none⟩) W hP)
  · exact stepM_ins rfl rfl (by kernel_rfl) (by kernel_rfl) rfl rfl rfl
  · exact stepM_plain rfl (by decide) (by decide) fun a W hB he => stepOk_want rfl (op_move rfl (he.keep (.tmp 12) (by kernel_rfl)))
  · exact stepM_plain rfl (by decide) (by decide) fun a W hB he => stepOk_want rfl (op_loadPart rfl (he.keep (.tmp 2) (by kernel_rfl)) q2 hB)
  · exact stepM_plain rfl (by decide) (by decide) fun a W hB he => stepOk_want rfl (op_loadPart rfl (he.keep (.tmp 5) (by kernel_rfl)) q5 hB)
  · refine stepM_plain rfl (by decide) (by decide) fun a W hB he => stepOk_want rfl ?_; obtain ⟨W1, hr, hL, hR⟩ := parts2 (.num 7 2147483647) (.num 11 2147483647) (a.eval (.tmp 65)) (a.eval (.tmp 66)) W (show (PrM.part (.num 7 2147483647)).R (a.eval (.tmp 65)) W from (he.get 49 65 (by kernel_rfl) rfl)) (show (PrM.part (.num 11 2147483647)).R (a.eval (.tmp 66)) W from (he.get 50 66 (by kernel_rfl) rfl)); exact op_buildSlice rfl (by simp only [List.map_toArray, List.map_cons, List.map_nil]) hr hL hR
  · refine stepM_plain rfl (by decide) (by decide) fun a W hB he => stepOk_want rfl ?_; have e1 : a.eval (.tmp 64) = .func (.func 74) #[] #[] := (he.get 48 64 (by kernel_rfl) rfl); obtain ⟨b, e2, hP⟩ : ∃ b, a.eval (.tmp 67) = .slice (some ⟨b, 0, none⟩) 2 2 ∧ RdP W (some ⟨b, 0, none⟩) [.num 7 2147483647, .num 11 2147483647] := (he.get 51 67 (by kernel_rfl) rfl); exact op_callF (vs := #[.string ⟨#[102, 97, 105, 108]⟩, .func (.func 74) #[] #[], .slice (some ⟨b, 0, none⟩) 2 2]) rfl (by simp only [List.map_toArray, List.map_cons, List.map_nil, e1, e2, (show a.eval (.const (.string ⟨#[102, 97, 105, 108]⟩)) = .string ⟨#[102, 97, 105, 108]⟩ from rfl)]) (enters_of Tryz.func75 (by kernel_rfl) rfl) (mof_kind ⟨#[102, 97, 105, 108]⟩ 74 [.num 7 2147483647, .num 11 2147483647] (some ⟨b, 0, none⟩) W hP)
  · exact stepM_ins rfl rfl (by kernel_rfl) (by kernel_rfl) rfl rfl rfl
  · exact stepM_plain rfl (by decide) (by decide) fun a W hB he => stepOk_want rfl (op_move rfl (he.keep (.tmp 11) (by kernel_rfl)))
  · exact stepM_plain rfl (by decide) (by decide) fun a W hB he => stepOk_want rfl (op_loadPart rfl (he.keep (.tmp 3) (by kernel_rfl)) q3 hB)
  · exact stepM_plain rfl (by decide) (by decide) fun a W hB he => stepOk_want rfl (op_loadPart rfl (he.keep (.tmp 8) (by kernel_rfl)) q8 hB)
  · refine stepM_plain rfl (by decide) (by decide) fun a W hB he => stepOk_want rfl ?_; obtain ⟨W1, hr, hL, hR⟩ := parts2 (.num 8 2147483647) (.hash 7) (a.eval (.tmp 70)) (a.eval (.tmp 71)) W (show (PrM.part (.num 8 2147483647)).R (a.eval (.tmp 70)) W from (he.get 55 70 (by kernel_rfl) rfl)) (show (PrM.part (.hash 7)).R (a.eval (.tmp 71)) W from (he.get 56 71 (by kernel_rfl) rfl)); exact op_buildSlice rfl (by simp only [List.map_toArray, List.map_cons, List.map_nil]) hr hL hR
  · refine stepM_plain rfl (by decide) (by decide) fun a W hB he => stepOk_want rfl ?_; have e1 : a.eval (.tmp 69) = .func (.func 73) #[] #[] := (he.get 54 69 (by kernel_rfl) rfl); obtain ⟨b, e2, hP⟩ : ∃ b, a.eval (.tmp 72) = .slice (some ⟨b, 0, none⟩) 2 2 ∧ RdP W (some ⟨b, 0, none⟩) [.num 8 2147483647, .hash 7] := (he.get 57 72 (by kernel_rfl) rfl); exact op_callF (vs := #[.string ⟨#[99, 111, 109, 109, 105, 116]⟩, .func (.func 73) #[] #[], .slice (some ⟨b, 0, none⟩) 2 2]) rfl (by simp only [List.map_toArray, List.map_cons, List.map_nil, e1, e2, (show a.eval (.const (.string ⟨#[99, 111, 109, 109, 105, 116]⟩)) = .string ⟨#[99, 111, 109, 109, 105, 116]⟩ from rfl)]) (enters_of Tryz.func75 (by kernel_rfl) rfl) (mof_kind ⟨#[99, 111, 109, 109, 105, 116]⟩ 73 [.num 8 2147483647, .hash 7] (some ⟨b, 0, none⟩) W hP)
  · exact stepM_ins rfl rfl (by kernel_rfl) (by kernel_rfl) rfl rfl rfl
  · exact stepM_plain rfl (by decide) (by decide) fun a W hB he => stepOk_want rfl (op_move rfl (he.keep (.tmp 11) (by kernel_rfl)))
  · exact stepM_plain rfl (by decide) (by decide) fun a W hB he => stepOk_want rfl (op_loadPart rfl (he.keep (.tmp 3) (by kernel_rfl)) q3 hB)
  · exact stepM_plain rfl (by decide) (by decide) fun a W hB he => stepOk_want rfl (op_loadPart rfl (he.keep (.tmp 9) (by kernel_rfl)) q9 hB)
  · exact stepM_plain rfl (by decide) (by decide) fun a W hB he => stepOk_want rfl (op_loadPart rfl (he.keep (.tmp 7) (by kernel_rfl)) q7 hB)
  · refine stepM_plain rfl (by decide) (by decide) fun a W hB he => stepOk_want rfl ?_; obtain ⟨W1, hr, hL, hR⟩ := parts3 (.num 8 2147483647) (.hash 8) (.hash 4) (a.eval (.tmp 75)) (a.eval (.tmp 76)) (a.eval (.tmp 77)) W (show (PrM.part (.num 8 2147483647)).R (a.eval (.tmp 75)) W from (he.get 61 75 (by kernel_rfl) rfl)) (show (PrM.part (.hash 8)).R (a.eval (.tmp 76)) W from (he.get 62 76 (by kernel_rfl) rfl)) (show (PrM.part (.hash 4)).R (a.eval (.tmp 77)) W from (he.get 63 77 (by kernel_rfl) rfl)); exact op_buildSlice rfl (by simp only [List.map_toArray, List.map_cons, List.map_nil]) hr hL hR
  · refine stepM_plain rfl (by decide) (by decide) fun a W hB he => stepOk_want rfl ?_; have e1 : a.eval (.tmp 74) = .func (.func 73) #[] #[] := (he.get 60 74 (by kernel_rfl) rfl); obtain ⟨b, e2, hP⟩ : ∃ b, a.eval (.tmp 78) = .slice (some ⟨b, 0, none⟩) 3 3 ∧ RdP W (some ⟨b, 0, none⟩) [.num 8 2147483647, .hash 8, .hash 4] := (he.get 64 78 (by kernel_rfl) rfl); exact op_callF (vs := #[.string ⟨#[114, 101, 118, 111, 107, 101]⟩, .func (.func 73) #[] #[], .slice (some ⟨b, 0, none⟩) 3 3]) rfl (by simp only [List.map_toArray, List.map_cons, List.map_nil, e1, e2, (show a.eval (.const (.string ⟨#[114, 101, 118, 111, 107, 101]⟩)) = .string ⟨#[114, 101, 118, 111, 107, 101]⟩ from rfl)]) (enters_of Tryz.func75 (by kernel_rfl) rfl) (mof_kind ⟨#[114, 101, 118, 111, 107, 101]⟩ 73 [.num 8 2147483647, .hash 8, .hash 4] (some ⟨b, 0, none⟩) W hP)
  · exact stepM_ins rfl rfl (by kernel_rfl) (by kernel_rfl) rfl rfl rfl
  · exact stepM_plain rfl (by decide) (by decide) fun a W hB he => stepOk_want rfl (op_move rfl (he.keep (.tmp 11) (by kernel_rfl)))
  · exact stepM_plain rfl (by decide) (by decide) fun a W hB he => stepOk_want rfl (op_loadPart rfl (he.keep (.tmp 3) (by kernel_rfl)) q3 hB)
  · exact stepM_plain rfl (by decide) (by decide) fun a W hB he => stepOk_want rfl (op_loadPart rfl (he.keep (.tmp 2) (by kernel_rfl)) q2 hB)
  · refine stepM_plain rfl (by decide) (by decide) fun a W hB he => stepOk_want rfl ?_; obtain ⟨W1, hr, hL, hR⟩ := parts2 (.num 8 2147483647) (.num 7 2147483647) (a.eval (.tmp 81)) (a.eval (.tmp 82)) W (show (PrM.part (.num 8 2147483647)).R (a.eval (.tmp 81)) W from (he.get 68 81 (by kernel_rfl) rfl)) (show (PrM.part (.num 7 2147483647)).R (a.eval (.tmp 82)) W from (he.get 69 82 (by kernel_rfl) rfl)); exact op_buildSlice rfl (by simp only [List.map_toArray, List.map_cons, List.map_nil]) hr hL hR
  · refine stepM_plain rfl (by decide) (by decide) fun a W hB he => stepOk_want rfl ?_; have e1 : a.eval (.tmp 80) = .func (.func 73) #[] #[] := (he.get 67 80 (by kernel_rfl) rfl); obtain ⟨b, e2, hP⟩ : ∃ b, a.eval (.tmp 83) = .slice (some ⟨b, 0, none⟩) 2 2 ∧ RdP W (some ⟨b, 0, none⟩) [.num 8 2147483647, .num 7 2147483647] := (he.get 70 83 (by kernel_rfl) rfl); exact op_callF (vs := #[.string ⟨#[97, 103, 97, 105, 110]⟩, .func (.func 73) #[] #[], .slice (some ⟨b, 0, none⟩) 2 2]) rfl (by simp only [List.map_toArray, List.map_cons, List.map_nil, e1, e2, (show a.eval (.const (.string ⟨#[97, 103, 97, 105, 110]⟩)) = .string ⟨#[97, 103, 97, 105, 110]⟩ from rfl)]) (enters_of Tryz.func75 (by kernel_rfl) rfl) (mof_kind ⟨#[97, 103, 97, 105, 110]⟩ 73 [.num 8 2147483647, .num 7 2147483647] (some ⟨b, 0, none⟩) W hP)
  · exact stepM_ins rfl rfl (by kernel_rfl) (by kernel_rfl) rfl rfl rfl
  · exact stepM_plain rfl (by decide) (by decide) fun a W hB he => stepOk_want rfl (op_move rfl (he.keep (.tmp 11) (by kernel_rfl)))
  · refine stepM_plain rfl (by decide) (by decide) fun a W hB he => stepOk_want rfl ?_; have e1 : a.eval (.tmp 85) = .func (.func 73) #[] #[] := (he.get 73 85 (by kernel_rfl) rfl); exact op_callF (vs := #[.string ⟨#[99, 108, 111, 115, 101]⟩, .func (.func 73) #[] #[], .slice none 0 0]) rfl (by simp only [List.map_toArray, List.map_cons, List.map_nil, e1, (show a.eval (.const (.string ⟨#[99, 108, 111, 115, 101]⟩)) = .string ⟨#[99, 108, 111, 115, 101]⟩ from rfl), (show a.eval (.const (.slice none 0 0)) = .slice none 0 0 from rfl)]) (enters_of Tryz.func75 (by kernel_rfl) rfl) (mof_kind ⟨#[99, 108, 111, 115, 101]⟩ 73 [] none W (fun h => absurd rfl h))
  · exact stepM_ins rfl rfl (by kernel_rfl) (by kernel_rfl) rfl rfl rfl
  · exact stepM_plain rfl (by decide) (by decide) fun a W hB he => stepOk_want rfl (op_move rfl (he.keep (.tmp 11) (by kernel_rfl)))
  · exact stepM_plain rfl (by decide) (by decide) fun a W hB he => stepOk_want rfl (op_loadPart rfl (he.keep (.tmp 1) (by kernel_rfl)) q1 hB)
  · exact stepM_plain rfl (by decide) (by decide) fun a W hB he => stepOk_want rfl (op_loadPart rfl (he.keep (.tmp 8) (by kernel_rfl)) q8 hB)
  · refine stepM_plain rfl (by decide) (by decide) fun a W hB he => stepOk_want rfl ?_; obtain ⟨W1, hr, hL, hR⟩ := parts2 (.num 6 1125899906842624) (.hash 7) (a.eval (.tmp 88)) (a.eval (.tmp 89)) W (show (PrM.part (.num 6 1125899906842624)).R (a.eval (.tmp 88)) W from (he.get 77 88 (by kernel_rfl) rfl)) (show (PrM.part (.hash 7)).R (a.eval (.tmp 89)) W from (he.get 78 89 (by kernel_rfl) rfl)); exact op_buildSlice rfl (by simp only [List.map_toArray, List.map_cons, List.map_nil]) hr hL hR
  · refine stepM_plain rfl (by decide) (by decide) fun a W hB he => stepOk_want rfl ?_; have e1 : a.eval (.tmp 87) = .func (.func 73) #[] #[] := (he.get 76 87 (by kernel_rfl) rfl); obtain ⟨b, e2, hP⟩ : ∃ b, a.eval (.tmp 90) = .slice (some ⟨b, 0, none⟩) 2 2 ∧ RdP W (some ⟨b, 0, none⟩) [.num 6 1125899906842624, .hash 7] := (he.get 79 90 (by kernel_rfl) rfl); exact op_callF (vs := #[.string ⟨#[111, 102, 102, 101, 114]⟩, .func (.func 73) #[] #[], .slice (some ⟨b, 0, none⟩) 2 2]) rfl (by simp only [List.map_toArray, List.map_cons, List.map_nil, e1, e2, (show a.eval (.const (.string ⟨#[111, 102, 102, 101, 114]⟩)) = .string ⟨#[111, 102, 102, 101, 114]⟩ from rfl)]) (enters_of Tryz.func75 (by kernel_rfl) rfl) (mof_kind ⟨#[111, 102, 102, 101, 114]⟩ 73 [.num 6 1125899906842624, .hash 7] (some ⟨b, 0, none⟩) W hP)
  · exact stepM_ins rfl rfl (by kernel_rfl) (by kernel_rfl) rfl rfl rfl
  · exact stepM_plain rfl (by decide) (by decide) fun a W hB he => stepOk_want rfl (op_move rfl (he.keep (.tmp 12) (by kernel_rfl)))
  · exact stepM_plain rfl (by decide) (by decide) fun a W hB he => stepOk_want rfl (op_loadPart rfl (he.keep (.tmp 5) (by kernel_rfl)) q5 hB)
  · refine stepM_plain rfl (by decide) (by decide) fun a W hB he => stepOk_want rfl ?_; obtain ⟨W1, hr, hL, hR⟩ := parts1 (.num 11 2147483647) (a.eval (.tmp 93)) W (show (PrM.part (.num 11 2147483647)).R (a.eval (.tmp 93)) W from (he.get 83 93 (by kernel_rfl) rfl)); exact op_buildSlice rfl (by simp only [List.map_toArray, List.map_cons, List.map_nil]) hr hL hR
  · refine stepM_plain rfl (by decide) (by decide) fun a W hB he => stepOk_want rfl ?_; have e1 : a.eval (.tmp 92) = .func (.func 74) #[] #[] := (he.get 82 92 (by kernel_rfl) rfl); obtain ⟨b, e2, hP⟩ : ∃ b, a.eval (.tmp 94) = .slice (some ⟨b, 0, none⟩) 1 1 ∧ RdP W (some ⟨b, 0, none⟩) [.num 11 2147483647] := (he.get 84 94 (by kernel_rfl) rfl); exact op_callF (vs := #[.string ⟨#[101, 114, 114, 111, 114]⟩, .func (.func 74) #[] #[], .slice (some ⟨b, 0, none⟩) 1 1]) rfl (by simp only [List.map_toArray, List.map_cons, List.map_nil, e1, e2, (show a.eval (.const (.string ⟨#[101, 114, 114, 111, 114]⟩)) = .string ⟨#[101, 114, 114, 111, 114]⟩ from rfl)]) (enters_of Tryz.func75 (by kernel_rfl) rfl) (mof_kind ⟨#[101, 114, 114, 111, 114]⟩ 74 [.num 11 2147483647] (some ⟨b, 0, none⟩) W hP)
  · exact stepM_ins rfl rfl (by kernel_rfl) (by kernel_rfl) rfl rfl rfl
  · exact stepM_copy rfl (by decide) rfl (by kernel_rfl) rfl rfl
  · intro xs W m hB hm h0 hcp hM hx hk hg
    have e87 := hg 87 96 (by decide) (by kernel_rfl)
    rw [hcp] at e87
    refine last_assign rfl e87 ?_
    simp only [initL, lastL, putL, Nat.reduceAdd, Act.put, List.setIfInBounds_toArray, List.set_cons_succ, List.set_cons_zero]
    have hK : KindsAt W m := kinds_of hM hx
    clear hx hk hg e87 hM h0 hcp
    go_wp2_with fail
    go_ret
    exact ⟨m, rfl, hK, hb10.step hB, Nat.le_trans hb10.size hm⟩
end Go.Proofs.YtcajhdmppfiaeaaGreat
