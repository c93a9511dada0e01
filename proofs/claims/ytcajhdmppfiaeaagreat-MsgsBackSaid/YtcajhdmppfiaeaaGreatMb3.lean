/- Joined texts: Gb4 Gk1 Gm Gc Gk2 Gk3 Gk4 Gk5. -/
import Derived.Test.YtcajhdmppfiaeaaGreatMb2
import Derived.WalkKit
import Derived.WalkSpells
import Derived.Deep.MidRow
import Derived.Deep.WholeRow
import Derived.Deep.Draws
import Derived.Maps.AppendAt
import Derived.Lib.Hide
import Derived.OwnWalk
import Derived.Laws.IdiomStrings
import Derived.Lib.SlBytesConst
import Derived.Orders
import Derived.Shelf.Abstract
import Derived.OrdersIn
import Derived.RangeFuncCalls
import Derived.RangeFuncNested
import Derived.RangeFuncBound
import Derived.RangeFuncLeaves
import Derived.Shelf.RegionOpen
import Derived.OwnWalkIn
import Derived.TacticsInMore
import Derived.LoopNIn
import Derived.LoopIn
import Derived.WalkMore
import Derived.Test.YtcajhdmppfiaeaaGreatRows
import Derived.ProofKit
import Derived.OpenShut
import Derived.Deep.Slices
import Derived.Deep.Matrix
import Derived.WalkLawsBesides
import Derived.BigRegion
import Derived.BigQuiet
import Derived.Lib.AppendZeros
import Derived.Laws.BitsAllLaws
import Derived.IntWalk
import Derived.Laws.CopyOwn
import Derived.Outline
import Derived.Deep.RegionWith
import Derived.Deep.RegionHeld3
import Derived.Stop.BytesEq
import Derived.ShutString
import Derived.ChangeOld
import Derived.Lib.ConvBytes
import Derived.Recover
import Derived.Defers
import Derived.Deep.Cut
import Derived.Deep.DeepCutAuto
import Derived.Deep.QuietTactic
import Derived.Laws.EntriesVeiled
import Derived.StillTailTactics
import Derived.Maps.OwnOps
import Derived.Lib.QuoteBits
import Derived.Lib.AppendStr
import Derived.Deep.Grids
import Derived.Deep.Strs
import Derived.MapKept
import Derived.Laws.StructEq
import Derived.ChangeKeysEq
import Derived.Stop.Joined
set_option linter.unusedVariables false
set_option linter.unusedSimpArgs false
namespace Go.Proofs.YtcajhdmppfiaeaaGreat
open Go.RowKit
end Go.Proofs.YtcajhdmppfiaeaaGreat
namespace Go.Proofs.YtcajhdmppfiaeaaGreat
open Go.RowKit
section
variable {P : Program} {Q : Exit → Act → World → Prop} {o : Oper} {a : Act} {W : World} {R : Value → World → Prop}
theorem op_buildR {t : TypeId} {parts : Array (Nat × Operand)} {vs : Array (Nat × Value)} {v : Value} (ho : o.op = .build t parts) (hp : (parts.map fun (i, x) => (i, a.eval x)) = vs) (hr : (Instr.build t vs).run P W = .ok v W) (h : R v W) : o.wp P a W (fun a' W' => ∃ v, a' = a.put o.dst v ∧ Later W W' ∧ R v W') Q := by
  refine op_value (v := v) (W' := W) ?_ (Later.refl _) h
  unfold execOp
  simp only [ho, hp, hr, Sem.run_bind, Sem.run_pure, Result.andThen_ok]
theorem last_assign {x : Operand} {vx : Value} (ho : o.op = .assign x) (hx : a.eval x = vx) (h : Q .normal (a.put o.dst vx) W) : LastOk P o a W Q :=
  ⟨op_assignK (K := fun a' W' => Q .normal a' W') ho (by rw [hx]; exact h)⟩
end
theorem Calls.post {P : Program} {f : FuncId} {args : Array Value} {w : World} {R : Ending → World → Prop} (h : ∀ Φ : Ending → World → Prop, Hid (∀ e w', R e w' → Φ e w') → Calls P f args w Φ) : Calls P f args w R := h R (Lib.hid fun _ _ h => h)
abbrev rfV (A : Option Addr) (n c : Nat) (bad : Bool) : Array Value := #[.slice A n c, .bool bad]
theorem infoRf : (Tryz.prog.info? 102).map (·.size) = some 2 := by kernel_rfl
theorem allocRf (w : World) : (Instr.alloc 102 true (.tuple #[])).run Tryz.prog w = .ok (.pointer (some ⟨w.heap.size, 0, none⟩)) (w.alloc (.cells (rfV none 0 0 false) 102)) := by kernel_rfl
theorem buildRf (A : Option Addr) (n c : Nat) (bad : Bool) (w : World) : (Instr.build 102 #[(0, .slice A n c), (1, .bool bad)]).run Tryz.prog w = .ok (.agg (rfV A n c bad)) w := by kernel_rfl
theorem storeRf {w : World} {g : Nat} {A A' : Option Addr} {n c n' c' : Nat} {bad bad' : Bool} (hr : Row w g 102 (rfV A n c bad)) : ∃ w', (Instr.storeAt 102 (.pointer (some ⟨g, 0, none⟩)) (.agg (rfV A' n' c' bad'))).run Tryz.prog w = .ok () w' ∧ Row w' g 102 (rfV A' n' c' bad') ∧ w.grownBy w' (some g) :=
  ⟨_, run_store_row hr (rfV A' n' c' bad') infoRf (by simp) (by kernel_rfl), row_setCells [.slice A' n' c', .bool bad'] 0 w _ hr, grown_setCells _ _ _⟩
theorem fieldRf0 {g : Nat} (W : World) : (Instr.fieldAt 102 (.pointer (some ⟨g, 0, none⟩)) 0).run Tryz.prog W = .ok (.pointer (some ⟨g, 0, none⟩)) W := by
  go_simp
theorem results_cell_tmp2 {P : Program} {fn : Func} {p q q2 : Tmp} {ty : TypeId} (h : fn.results = #[.cell p ty, .tmp q, .tmp q2]) (tmps : Array Value) (w : World) (g : Nat) (t : TypeId) (cs : Array Value) (fr : Nat × Nat) (d : TypeDesc) (v v2 : Value)
    (hp : tmps.getD p undef = .pointer (some ⟨g, 0, none⟩)) (hq : tmps.getD q undef = v) (hq2 : tmps.getD q2 undef = v2) (hg : w.heap[g]? = some (.cells cs t fr))
    (hu : P.underlying ty = some d) (hd : (match d with | .struct _ | .array _ _ => true | _ => false) = true) (hi : (P.info? ty).map (·.size) = some cs.size) :
    (results fn tmps).run P w = .ok (.tuple #[.agg cs, v, v2]) w := by
  have hp' : tmps[p]?.getD undef = .pointer (some ⟨g, 0, none⟩) := by simpa using hp
  have hq' : tmps[q]?.getD undef = v := by simpa using hq
  have hq2' : tmps[q2]?.getD undef = v2 := by simpa using hq2
  simp [results, h, hp', hq', hq2', asAddr, run_loadVar_row w g t ty cs fr d hg hu hd hi]
set_option maxRecDepth 100000 in
set_option maxHeartbeats 1000000 in
theorem refTake_any (A : Option Addr) (n c : Nat) (l : List UInt8) (bad : Bool) (k : Nat) (w : World) (hn : l.length = n) (hc : n ≤ c) (hcm : c ≤ 9223372036854775807) (hk : k ≤ 9223372036854775807) :
    Calls Tryz.prog 111 #[.agg (rfV A n c bad), .int .i64 (k : Int)] w fun e w' => Later w w' ∧ ((bad = false ∧ k ≤ n ∧ ∃ D, e = .returned (.tuple #[.agg (rfV D (n - k) (c - k) false), .slice A k c, .int .i64 0]) ∧ ∀ X, Rd X A l → Rd X D (l.drop k)) ∨ ((bad = true ∨ n < k) ∧ e = .returned (.tuple #[.agg (rfV A n c true), .slice none 0 0, .int .i64 140]))) := by
  have k2 := (Row.new w 102 (rfV A n c bad)).alloc (.cells (rfV none 0 0 false) 102)
  have k4 := Row.new (w.alloc (.cells (rfV A n c bad) 102)) 102 (rfV none 0 0 false)
  have hb := (((Later.refl w).alloc (.cells (rfV A n c bad) 102)).alloc (.cells (rfV none 0 0 false) 102))
  refine Calls.post fun Φ HΦ => ?_
  go_enter Tryz.func111, Tryz.ntmps111
  go_upto_region 1 with (first
    | (with_reducible refine wpList_alloc rfl 102 rfl (allocRf _) ?_)
    | fail)
  simp only [World.size_alloc] at k4 ⊢
  obtain ⟨q, hq⟩ : ∃ q, q = w.heap.size := ⟨_, rfl⟩
  rw [← hq] at k2 k4 ⊢
  generalize (w.alloc (.cells (rfV A n c bad) 102)).alloc (.cells (rfV none 0 0 false) 102) = w1 at *
  have HQ := Lib.hid hq
  clear hq
  have c20 : w1.cell? ⟨q, 0, none⟩ = some (.slice A n c) := (k2.cell 0).trans rfl
  have c21 : w1.cell? ⟨q, 1, none⟩ = some (.bool bad) := (k2.cell 1).trans rfl
  by_cases hok : bad = false ∧ k ≤ n
  · obtain ⟨rfl, hkn⟩ := hok
    have hd : decide ((n : Int) < (k : Int)) = false := decide_eq_false (by omega)
    obtain ⟨D, hs1, hD⟩ := run_slice_from (P := Tryz.prog) (t := 32) (U := 5) (A := A) (n := n) (ca := c) (k := k) Tryz.underlying32 byteInfo hkn hc
    have hs2 : ∀ w : World, (Instr.sliceAt 32 (.slice A n c) none (some (.int .i64 (k : Int))) none).run Tryz.prog w = .ok (.slice A k c) w := run_slice_upto (k := k) Tryz.underlying32 byteInfo (by omega)
    go_upto_region 3 with fail
    refine (wpIn_wide (n := 0)).1 ?_
    refine wpIn_region_pivot wide_wide 9 [.pointer (some ⟨q, 0, none⟩), .slice A n c, .int .i64 (k : Int), .slice D (n - k) (c - k), .agg (rfV D (n - k) (c - k) false), .pointer (some ⟨q, 0, none⟩), .slice A n c, .int .i64 (k : Int), .slice A k c, undef, .slice A k c] (fun W => Later w1 W) (fun y W => Later w W ∧ Row W q 102 (rfV A n c false) ∧ Row W (q + 1) 102 (rfV D (n - k) (c - k) false)) (fun W W' h k => k.step h) (fun y W W' h k => ⟨k.1.step h, k.2.1.later h, k.2.2.later h⟩) (Later.refl _) (by kernel_rfl) (by kernel_rfl) (by kernel_rfl) (by kernel_rfl) (by kernel_rfl) (by kernel_rfl) rfl (by kernel_rfl) (by kernel_rfl) ⟨?_, ?_, ?_, ?_, ?_, ?_, ?_, ?_, ?_, ?_, ?_, trivial⟩ ?_
    · exact fun ac W d x he => stepOk_want rfl (op_fieldAddr rfl (he.keep (.tmp 2) (by kernel_rfl)) (fieldRf0 W) rfl)
    · exact fun ac W d x he => stepOk_want rfl (op_load rfl (show ac.eval (.tmp 19) = .pointer (some ⟨q, 0, none⟩) from he.val 0 19 (by kernel_rfl) rfl rfl) (loadSl ((he.both (C := fun W => Row W q 102 (rfV A n c false)) (fun W h => k2.later h) (fun y W h => h.2.1)).cell 0 |>.trans rfl)) rfl)
    · exact fun ac W d x he => stepOk_want rfl (op_move rfl (he.keep (.tmp 1) (by kernel_rfl)))
    · exact fun ac W d x he => stepOk_want rfl (op_slice (W' := W) rfl (show ac.eval (.tmp 20) = .slice A n c from he.val 1 20 (by kernel_rfl) rfl rfl) (congrArg some (show ac.eval (.tmp 21) = .int .i64 (k : Int) from he.val 2 21 (by kernel_rfl) rfl rfl)) (rfl : _ = none) rfl (hs1 W) rfl)
    · exact fun ac W d x he => stepOk_want rfl (op_buildR rfl (by simp only [List.map_toArray, List.map_cons, List.map_nil, (show ac.eval (.tmp 22) = .slice D (n - k) (c - k) from he.val 3 22 (by kernel_rfl) rfl rfl)]; rfl) (buildRf D (n - k) (c - k) false W) rfl)
    · exact fun ac W d x he => stepOk_want rfl (op_fieldAddr rfl (he.keep (.tmp 2) (by kernel_rfl)) (fieldRf0 W) rfl)
    · exact fun ac W d x he => stepOk_want rfl (op_load rfl (show ac.eval (.tmp 24) = .pointer (some ⟨q, 0, none⟩) from he.val 5 24 (by kernel_rfl) rfl rfl) (loadSl ((he.both (C := fun W => Row W q 102 (rfV A n c false)) (fun W h => k2.later h) (fun y W h => h.2.1)).cell 0 |>.trans rfl)) rfl)
    · exact fun ac W d x he => stepOk_want rfl (op_move rfl (he.keep (.tmp 1) (by kernel_rfl)))
    · exact fun ac W d x he => stepOk_want rfl (op_slice (W' := W) rfl (show ac.eval (.tmp 25) = .slice A n c from he.val 6 25 (by kernel_rfl) rfl rfl) (rfl : _ = none) (congrArg some (show ac.eval (.tmp 26) = .int .i64 (k : Int) from he.val 7 26 (by kernel_rfl) rfl rfl)) rfl (hs2 W) rfl)
    · intro ac W he hA; refine ⟨rfl, ?_⟩; have e4 := (he.keep (.tmp 4) (by kernel_rfl)); have e23 := (show ac.eval (.tmp 23) = .agg (rfV D (n - k) (c - k) false) from he.val 4 23 (by kernel_rfl) rfl rfl); obtain ⟨W', hst, hrow', hg'⟩ := storeRf (A' := D) (n' := n - k) (c' := c - k) (bad' := false) (k4.later hA); exact op_storeK rfl e4 e23 hst ⟨_, rfl, (hb.step hA).grown hg' (hb.step hA).size (fun j e => by cases e; have := HQ.out; omega), (k2.later hA).grown hg' (by intro e; have := Option.some.inj e; omega), hrow'⟩
    · exact fun ac W d x he => stepOk_want rfl (op_assign rfl (show ac.eval (.tmp 27) = .slice A k c from he.val 8 27 (by kernel_rfl) rfl rfl))
    · intro xs W y hB hx hk hg
      refine last_assign (vx := .int .i64 0) rfl rfl ?_
      have e10 := hx 10 (by decide)
      have hB2 := hB
      clear hx hk hg hB
      simp only [initL, lastL, putL, Nat.reduceAdd, Act.put, List.setIfInBounds_toArray, List.set_cons_succ, List.set_cons_zero]
      rw [e10]
      go_wp2_with fail
      exact bodyPost_ret (results_cell_tmp2 rfl _ _ (q + 1) 102 (rfV D (n - k) (c - k) false) (0, 0) _ (.slice A k c) (.int .i64 0) rfl rfl rfl hB2.2.2 Tryz.underlying102 rfl infoRf) rfl (HΦ.out _ _ ⟨hB2.1, .inl ⟨by first | rfl | trivial, hkn, D, rfl, fun X hX => hD X l hn hX⟩⟩)
  · have hor : bad = true ∨ n < k := by
      cases bad
      · exact .inr (by have : ¬ k ≤ n := fun h => hok ⟨rfl, h⟩; omega)
      · exact .inl rfl
    have hd : bad = false → decide ((n : Int) < (k : Int)) = true := fun h => decide_eq_true (by rcases hor with h2 | h2; · { rw [h] at h2; cases h2 }; · omega)
    obtain ⟨w2, hst, k42, hg2⟩ := storeRf (A' := A) (n' := n) (c' := c) (bad' := true) k4
    have hb2 : Later w w2 := hb.grown hg2 hb.size (fun j e => by cases e; have := HQ.out; omega)
    cases bad with
    | true =>
      go_wp2_with (first
        | (refine wpList_store rfl 102 (.tmp 4) (.tmp 18) rfl (.pointer (some ⟨q + 1, 0, none⟩)) (.agg (rfV A n c true)) rfl rfl hst ?_)
        | fail)
      exact bodyPost_ret (results_cell_tmp2 rfl _ _ (q + 1) 102 (rfV A n c true) (0, 0) _ (.slice none 0 0) (.int .i64 140) rfl rfl rfl k42 Tryz.underlying102 rfl infoRf) rfl (HΦ.out _ _ ⟨hb2, .inr ⟨.inl (by first | rfl | trivial), rfl⟩⟩)
    | false =>
      have hd1 : decide ((n : Int) < (k : Int)) = true := hd rfl
      have hkn : n < k := hor.resolve_left (fun h => by cases h)
      clear hd hok
      go_wp2_with (first
        | (refine wpList_store rfl 102 (.tmp 4) (.tmp 18) rfl (.pointer (some ⟨q + 1, 0, none⟩)) (.agg (rfV A n c true)) rfl rfl hst ?_)
        | fail)
      exact bodyPost_ret (results_cell_tmp2 rfl _ _ (q + 1) 102 (rfV A n c true) (0, 0) _ (.slice none 0 0) (.int .i64 140) rfl rfl rfl k42 Tryz.underlying102 rfl infoRf) rfl (HΦ.out _ _ ⟨hb2, .inr ⟨hor, rfl⟩⟩)
end Go.Proofs.YtcajhdmppfiaeaaGreat
namespace Go.Proofs.YtcajhdmppfiaeaaGreat
open Go.RowKit Go.ChangeShapes Go.WideShapes Go.ChangeAt
section
variable {P : Program} {W : World}
theorem eqgI {op : BinOp} {t : TypeId} {x y : Operand} {k k' : IntKind} {i j : Int} : (eqGuard op t x y (.int k i) (.int k' j)).run P W = .ok () W := by cases op <;> rfl
theorem eqgS {op : BinOp} {t : TypeId} {x y : Operand} {i j : ByteArray} : (eqGuard op t x y (.string i) (.string j)).run P W = .ok () W := by cases op <;> rfl
theorem neqI (t : TypeId) (k : IntKind) (i j : Int) : (binOp .neq t (.int k i) (.int k j)).run P W = .ok (.bool (i != j)) W := by go_simp
theorem eqlS_self (t : TypeId) (i : ByteArray) : (binOp .eql t (.string i) (.string i)).run P W = .ok (.bool true) W := by go_simp
end
section
variable {w : World}
end
end Go.Proofs.YtcajhdmppfiaeaaGreat
namespace Go.Proofs.YtcajhdmppfiaeaaGreat
open Go.RowKit
theorem run_slice_piece {P : Program} {t U : TypeId} {A : Option Addr} {n ca k m : Nat} (ht : P.underlying t = some (.slice U)) (hi : ByteInfo P U) (h1 : k ≤ m) (h2 : m ≤ ca) :
    ∃ D, (∀ w : World, (Instr.slice t (.slice A n ca) (some (.int .i64 (k : Int))) (some (.int .i64 (m : Int))) none).run P w = .ok (.slice D (m - k) (ca - k)) w) ∧ (∀ (W : World) (l : List UInt8), m ≤ l.length → Rd W A l → Rd W D ((l.drop k).take (m - k))) ∧ ∀ ad, D = some ad → ∃ ad', A = some ad' ∧ ad'.block = ad.block := by
  obtain ⟨i, hi0, hz, hs, hb⟩ := info_parts hi
  have he : P.elem t = U := by simp [Program.elem, ht]
  have ht' : P.underlying t = some (.slice (P.elem t)) := by rw [he]; exact ht
  refine ⟨if ca = k then A else A.map (·.add (k * 1)), fun w => ?_, fun W l hl hr => ?_, fun ad e => ?_⟩
  · rw [run_slice_lh w t A n ca ht' .i64 .i64 (k : Int) (m : Int) (by omega) (by omega) (by omega), he]
    simp [sizeOf, typeInfo, hi0, hs, sliced]
  · by_cases h : ca = k
    · rw [show m - k = 0 from by omega, List.take_zero]
      exact Rd.nil _ _
    · refine Rd.take ?_ _
      rw [if_neg h, Nat.mul_one]
      intro hne
      obtain ⟨b, o, e, hc⟩ := hr (by intro e; subst e; simp at hne)
      subst e
      refine ⟨b, o + k, by unfold Addr.add; simp, fun i hi' => ?_⟩
      rw [List.getElem_drop, Nat.add_assoc]
      exact hc (k + i) (by rw [List.length_drop] at hi'; omega)
  · split at e
    · exact ⟨ad, e, rfl⟩
    · rcases A with _ | x
      · cases e
      · refine ⟨x, rfl, ?_⟩
        have e2 : x.add (k * 1) = ad := Option.some.inj e
        rw [← e2]
        unfold Addr.add
        split <;> rfl
theorem results3 {P : Program} {fn : Func} {p q r : Tmp} (h : fn.results = #[.tmp p, .tmp q, .tmp r]) (tmps : Array Value) (w : World) {v1 v2 v3 : Value} (h1 : tmps.getD p undef = v1) (h2 : tmps.getD q undef = v2) (h3 : tmps.getD r undef = v3) :
    (results fn tmps).run P w = .ok (.tuple #[v1, v2, v3]) w := by
  have h1' : tmps[p]?.getD undef = v1 := by simpa using h1
  have h2' : tmps[q]?.getD undef = v2 := by simpa using h2
  have h3' : tmps[r]?.getD undef = v3 := by simpa using h3
  simp [results, h, h1', h2', h3']
def Wr.piece (l : List UInt8) : List UInt8 := (l.drop (Wr.first l).2.toNat).take (Wr.first l).1
def Wr.splitR (l : List UInt8) : List UInt8 × Int × Int :=
  if (Wr.first l).2 = 0 then ([], 0, 0) else if (Wr.first l).2 < 0 ∨ (Wr.first l).1 < 4 ∨ 8196 < (Wr.first l).1 then ([], 0, 141)
  else if (l.length : Int) - (Wr.first l).2 < ((Wr.first l).1 : Int) then ([], 0, 0)
  else if openOk (Wr.piece l) then (openB (Wr.piece l), (Wr.first l).2 + ((Wr.first l).1 : Int), 0) else ([], 0, 130)
set_option maxRecDepth 100000 in
set_option maxHeartbeats 1000000 in
theorem split_any (A : Option Addr) (n c : Nat) (l : List UInt8) (w : World) (hn : l.length = n) (hc : n ≤ c) (hcm : c ≤ 9223372036854775807) (hr : Rd w A l) :
    Calls Tryz.prog 55 #[.slice A n c] w fun e w' => ∃ v, e = .returned (.tuple #[v, .int .i64 (Wr.splitR l).2.1, .int .i64 (Wr.splitR l).2.2]) ∧ Own 5 w' w.heap.size v (Wr.splitR l).1 ∧ Below w.heap.size w w' := by
  have hfi := first_any A n c l w hn hc (by omega) hr
  obtain ⟨hf1, hf2, hf3⟩ := Wr.first_le l
  obtain ⟨R, hR⟩ : ∃ R, Wr.splitR l = R := ⟨_, rfl⟩
  have hp : Wr.piece l = (l.drop (Wr.first l).2.toNat).take (Wr.first l).1 := rfl
  rw [hR]
  unfold Wr.splitR at hR
  generalize Wr.piece l = p at *
  generalize Wr.first l = F at *
  obtain ⟨f, s⟩ := F
  simp only at hR hp hf1 hf2 hf3
  by_cases h0 : s = 0
  · rw [if_pos h0] at hR
    subst h0
    subst hR
    go_enter Tryz.func55, Tryz.ntmps55
    go_wp2_with (first
      | (go_at_call 107; refine hfi.mono ?_; clear hfi; rintro e w2 ⟨rfl, hb⟩)
      | fail)
    exact bodyPost_ret (results3 rfl _ _ rfl rfl rfl) rfl ⟨_, rfl, Own.nil _ _ _, hb⟩
  · rw [if_neg h0] at hR
    have hd0 : (s == 0) = false := by simpa using h0
    by_cases h1 : s < 0 ∨ f < 4 ∨ 8196 < f
    · rw [if_pos h1] at hR
      subst hR
      by_cases a1 : s < 0
      · have d1 : decide (s < 0) = true := decide_eq_true a1
        go_enter Tryz.func55, Tryz.ntmps55
        go_wp2_with (first
          | (go_at_call 107; refine hfi.mono ?_; clear hfi; rintro e w2 ⟨rfl, hb⟩)
          | fail)
        exact bodyPost_ret (results3 rfl _ _ rfl rfl rfl) rfl ⟨_, rfl, Own.nil _ _ _, hb⟩
      · have d1 : decide (s < 0) = false := decide_eq_false a1
        by_cases a2 : f < 4
        · have d2 : decide ((f : Int) < 4) = true := decide_eq_true (by omega)
          have d2' : decide (f < 4) = true := decide_eq_true (by omega)
          go_enter Tryz.func55, Tryz.ntmps55
          go_wp2_with (first
            | (go_at_call 107; refine hfi.mono ?_; clear hfi; rintro e w2 ⟨rfl, hb⟩)
            | fail)
          exact bodyPost_ret (results3 rfl _ _ rfl rfl rfl) rfl ⟨_, rfl, Own.nil _ _ _, hb⟩
        · have d2 : decide ((f : Int) < 4) = false := decide_eq_false (by omega)
          have d2' : decide (f < 4) = false := decide_eq_false (by omega)
          have d3 : decide ((8196 : Int) < (f : Int)) = true := decide_eq_true (by omega)
          have d3' : decide (8196 < f) = true := decide_eq_true (by omega)
          go_enter Tryz.func55, Tryz.ntmps55
          go_wp2_with (first
            | (go_at_call 107; refine hfi.mono ?_; clear hfi; rintro e w2 ⟨rfl, hb⟩)
            | fail)
          exact bodyPost_ret (results3 rfl _ _ rfl rfl rfl) rfl ⟨_, rfl, Own.nil _ _ _, hb⟩
    · rw [if_neg h1] at hR
      have a1 : ¬ s < 0 := fun h => h1 (.inl h)
      have a2 : ¬ f < 4 := fun h => h1 (.inr (.inl h))
      have a3 : ¬ 8196 < f := fun h => h1 (.inr (.inr h))
      obtain ⟨k, rfl⟩ : ∃ k : Nat, s = k := ⟨s.toNat, by omega⟩
      have d1 : decide ((k : Int) < 0) = false := decide_eq_false a1
      have d2 : decide ((f : Int) < 4) = false := decide_eq_false (by omega)
      have d2' : decide (f < 4) = false := decide_eq_false (by omega)
      have d3 : decide ((8196 : Int) < (f : Int)) = false := decide_eq_false (by omega)
      have d3' : decide (8196 < f) = false := decide_eq_false (by omega)
      rw [hn] at hR hf1
      clear h1 h0
      have hkn : k ≤ n := by omega
      have hsub : ((n : Int) - (k : Int)) = ((n - k : Nat) : Int) := by omega
      by_cases h2 : (n : Int) - (k : Int) < (f : Int)
      · rw [if_pos h2] at hR
        subst hR
        have d4 : decide ((n : Int) - (k : Int) < (f : Int)) = true := decide_eq_true h2
        go_enter Tryz.func55, Tryz.ntmps55
        go_wp2_with (first
          | (go_at_call 107; refine hfi.mono ?_; clear hfi; rintro e w2 ⟨rfl, hb⟩)
          | fail)
        exact bodyPost_ret (results3 rfl _ _ rfl rfl rfl) rfl ⟨_, rfl, Own.nil _ _ _, hb⟩
      · rw [if_neg h2] at hR
        have d4 : decide ((n : Int) - (k : Int) < (f : Int)) = false := decide_eq_false h2
        have hkf : k + f ≤ n := by omega
        obtain ⟨D, hs1, hD, _⟩ := run_slice_piece (P := Tryz.prog) (t := 32) (U := 5) (A := A) (n := n) (ca := c) (k := k) (m := k + f) Tryz.underlying32 byteInfo (by omega) (by omega)
        have hpl : p.length = f := by rw [hp]; simp; omega
        have hDp : ∀ W, Rd W A l → Rd W D p := fun W h => by
          have := hD W l (by omega) h
          rw [show k + f - k = f by omega] at this
          rw [hp, Int.toNat_natCast]
          exact this
        rw [show k + f - k = f by omega] at hs1
        simp only [Int.natCast_add] at hs1
        have hop := fun W (h : Rd W A l) => open_any D f (c - k) p W hpl (by omega) (by omega) (hDp W h)
        unfold OpenPost openE openB at hop
        unfold openB at hR
        cases hok : openOk p with
        | true =>
          simp only [hok, if_true] at hop hR
          subst hR
          go_enter Tryz.func55, Tryz.ntmps55
          go_wp2_with (first
            | (go_at_call 107; refine hfi.mono ?_; clear hfi; rintro e w2 ⟨rfl, hb⟩; have hr2 := hr.below hb)
            | (go_at_call 108; refine (hop _ hr2).mono ?_; clear hop; rintro e w3 ⟨v, rfl, hown, hb3⟩; obtain ⟨A', n', c', rfl⟩ := hown.shape)
            | fail)
          exact bodyPost_ret (results3 rfl _ _ rfl rfl rfl) rfl ⟨_, rfl, hown.mono hb.size, below_step hb hb.size hb3⟩
        | false =>
          simp only [hok, Bool.false_eq_true, if_false] at hop hR
          subst hR
          go_enter Tryz.func55, Tryz.ntmps55
          go_wp2_with (first
            | (go_at_call 107; refine hfi.mono ?_; clear hfi; rintro e w2 ⟨rfl, hb⟩; have hr2 := hr.below hb)
            | (go_at_call 108; refine (hop _ hr2).mono ?_; clear hop; rintro e w3 ⟨v, rfl, hown, hb3⟩; obtain ⟨A', n', c', rfl⟩ := hown.shape)
            | fail)
          exact bodyPost_ret (results3 rfl _ _ rfl rfl rfl) rfl ⟨_, rfl, Own.nil _ _ _, below_step hb hb.size hb3⟩
end Go.Proofs.YtcajhdmppfiaeaaGreat
namespace Go.Proofs.YtcajhdmppfiaeaaGreat
open Go.RowKit
end Go.Proofs.YtcajhdmppfiaeaaGreat
namespace Go.Proofs.YtcajhdmppfiaeaaGreat
open Go.RowKit
section
variable {P : Program} {ops : Array Oper} {rest : List Oper} {o : Oper} {a : Act} {w : World} {Q : Exit → Act → World → Prop}
theorem wpList_slice0 (hgd : o.guard = none) (T : TypeId) (x : Operand) (ho : o.op = .slice T x none none none) (vx : Value) (hx : a.eval x = vx) {v : Value} {w' : World} (hr : (Instr.sliceAt T vx none none none).run P w = .ok v w')
    (h : wpList P ops Q rest (a.put o.dst v) w') : wpList P ops Q (o :: rest) a w :=
  wpList_plain hgd fun _ hK => by
    unfold Oper.wp execOp
    simp only [ho, Sem.run_bind, Sem.run_pure, Result.andThen_ok, Option.map_none, hx, hr]
    exact hK _ _ h
theorem wpList_build (hgd : o.guard = none) (T : TypeId) (parts : Array (Nat × Operand)) (ho : o.op = .build T parts) (vs : Array (Nat × Value)) (hp : (parts.map fun (i, x) => (i, a.eval x)) = vs) {v : Value} {w' : World} (hr : (Instr.build T vs).run P w = .ok v w')
    (h : wpList P ops Q rest (a.put o.dst v) w') : wpList P ops Q (o :: rest) a w :=
  wpList_plain hgd fun _ hK => by
    unfold Oper.wp execOp
    simp only [ho, hp, Sem.run_bind, Sem.run_pure, Result.andThen_ok, hr]
    exact hK _ _ h
end
end Go.Proofs.YtcajhdmppfiaeaaGreat
namespace Go.Proofs.YtcajhdmppfiaeaaGreat
open Go.RowKit
end Go.Proofs.YtcajhdmppfiaeaaGreat
namespace Go.Proofs.YtcajhdmppfiaeaaGreat
open Go.RowKit
namespace Wr
theorem val_be_take (k n : Nat) (hn : n < 2 ^ (8 * k)) : ∀ i, i ≤ k → val ((be k n).take i) = n / 2 ^ (8 * (k - i))
  | 0, _ => by rw [List.take_zero]; simp [val]; exact (Nat.div_eq_of_lt hn).symm
  | i + 1, hi => by
    rw [be_take k n i (by omega), val_snoc, val_be_take k n hn i (by omega)]
    unfold at_
    rw [UInt8.toNat_ofNat', show k - 1 - i = k - (i + 1) by omega]
    have e : 2 ^ (8 * (k - i)) = 2 ^ (8 * (k - (i + 1))) * 256 := by
      rw [show 8 * (k - i) = 8 * (k - (i + 1)) + 8 by omega, Nat.pow_add]
    rw [e, ← Nat.div_div_eq_div_mul]
    generalize n / 2 ^ (8 * (k - (i + 1))) = y
    omega
theorem val_be (k n : Nat) (hn : n < 2 ^ (8 * k)) : val (be k n) = n := by
  have h := val_be_take k n hn k (Nat.le_refl _)
  rw [List.take_of_length_le (by rw [be_len]; exact Nat.le_refl _)] at h
  simpa using h
theorem first_bytes (m : Nat) (s : List UInt8) (hm : m ≤ 4611686018427387904) : first (bytes m ++ s) = (m, ((bytes m).length : Int)) := by
  have hlen := bytes_len m
  by_cases h1 : m < 253
  · have hb : bytes m = [UInt8.ofNat m] := by rw [bytes, if_pos h1]
    have hmany : many (UInt8.ofNat m) = 0 := by
      have h : (UInt8.ofNat m).toNat = m := by rw [UInt8.toNat_ofNat']; omega
      unfold many
      rw [if_neg (by intro e; rw [e] at h; simp at h; omega), if_neg (by intro e; rw [e] at h; simp at h; omega), if_neg (by intro e; rw [e] at h; simp at h; omega)]
    rw [hb, List.singleton_append, first, if_pos hmany]
    simp
    omega
  · have key : ∀ (c : UInt8) (k : Nat), many c = k → k ≠ 0 → bytes m = c :: be k m → m < 2 ^ (8 * k) → first (bytes m ++ s) = (m, ((bytes m).length : Int)) := fun c k hk h0 hb hlt => by
      have hl : (bytes m).length = 1 + k := by rw [hb]; simp [be_len]; omega
      have ht : (be k m ++ s).take k = be k m := by rw [List.take_append_of_le_length (by rw [be_len]; exact Nat.le_refl _), List.take_of_length_le (by rw [be_len]; exact Nat.le_refl _)]
      have hf : first ((c :: be k m) ++ s) = (m, 1 + (k : Int)) := by
        rw [List.cons_append, first, hk, if_neg h0, if_neg (by rw [List.length_append, be_len]; omega), ht, val_be k m hlt, hl, if_neg (by simp; omega)]
      rw [hb, hf]
      simp [be_len]
      omega
    by_cases h2 : m < 65536
    · exact key 253 2 (by decide) (by decide) (by rw [bytes, if_neg h1, if_pos h2]) (by simpa using h2)
    · by_cases h3 : m < 4294967296
      · exact key 254 4 (by decide) (by decide) (by rw [bytes, if_neg h1, if_neg h2, if_pos h3]) (by simpa using h3)
      · exact key 255 8 (by decide) (by decide) (by rw [bytes, if_neg h1, if_neg h2, if_neg h3]) (by omega)
def frame (l : List UInt8) : List UInt8 := bytes (l.length + 4) ++ (l ++ low4 (Crc.sum l))
theorem open_seal (l : List UInt8) : openOk (l ++ low4 (Crc.sum l)) = true ∧ openB (l ++ low4 (Crc.sum l)) = l := by
  have h4 : (low4 (Crc.sum l)).length = 4 := rfl
  have hl : (l ++ low4 (Crc.sum l)).length - 4 = l.length := by rw [List.length_append, h4]; omega
  have ho : openOk (l ++ low4 (Crc.sum l)) = true := by
    unfold openOk
    rw [hl, List.take_left' rfl, List.drop_left' rfl, eqB_true rfl]
    simp [h4]
  exact ⟨ho, by unfold openB; rw [ho, hl, List.take_left' rfl]; rfl⟩
theorem split_frame (l s : List UInt8) (hl : l.length ≤ 8192) : splitR (frame l ++ s) = (l, ((frame l).length : Int), 0) := by
  have hf : first (frame l ++ s) = (l.length + 4, ((bytes (l.length + 4)).length : Int)) := by
    unfold frame
    rw [List.append_assoc]
    exact first_bytes _ _ (by omega)
  have hp : piece (frame l ++ s) = l ++ low4 (Crc.sum l) := by
    unfold piece
    rw [hf]
    simp only [Int.toNat_natCast]
    unfold frame
    rw [List.append_assoc, List.drop_left' rfl, List.take_left' (by rw [List.length_append]; rfl)]
  have hb0 : 0 < (bytes (l.length + 4)).length := by rw [bytes_len]; split <;> (try split) <;> (try split) <;> omega
  have hfl : (frame l ++ s).length = (bytes (l.length + 4)).length + (l.length + 4) + s.length := by unfold frame; simp [List.length_append, low4]; omega
  have hfl2 : (frame l).length = (bytes (l.length + 4)).length + (l.length + 4) := by unfold frame; simp [List.length_append, low4]
  unfold splitR
  rw [hf, hp, (open_seal l).1, (open_seal l).2, hfl]
  simp only
  rw [if_neg (by omega), if_neg (by omega), if_neg (by omega), if_pos trivial, hfl2]
  simp
end Wr
theorem low4_len (x : BitVec 32) : (low4 x).length = 4 := rfl
set_option maxRecDepth 100000 in
set_option maxHeartbeats 1000000 in
theorem frame_any (A : Option Addr) (n c : Nat) (l : List UInt8) (w : World) (hn : l.length = n) (hm : n ≤ 1099511627776) (hr : Rd w A l) :
    Calls Tryz.prog 49 #[.slice A n c] w fun e w' => ∃ v, e = .returned (.tuple #[v, .int .i64 (if n ≤ 8192 then 0 else 3)]) ∧ Own 5 w' w.heap.size v (if n ≤ 8192 then Wr.frame l else []) ∧ Below w.heap.size w w' := by
  by_cases hbig : n ≤ 8192
  · have hd : decide ((8192 : Int) < (n : Int)) = false := decide_eq_false (by omega)
    have hd' : decide (8192 < n) = false := decide_eq_false (by omega)
    rw [if_pos hbig, if_pos hbig]
    have hP : ∀ l' ∈ [l], l'.length ≤ 1099511627776 := by simp; omega
    have hF : [l].flatten.length ≤ 1099511627776 := by simp; omega
    have hseal := seal_any (some ⟨w.heap.size, 0, none⟩) 1 1 [l] (w.alloc (.cells #[.slice A n c] 32)) rfl (by omega) hF hP (Rds.one_at _ rfl hr hn)
    have hL1 := (Later.refl w).alloc (.cells #[.slice A n c] 32)
    have HL1 := Lib.hid hL1
    have hl1 : ([l].flatten ++ low4 (Crc.sum [l].flatten)).length = n + 4 := by rw [List.length_append, low4_len]; simp [hn]
    have hfr : Wr.frame l = [] ++ Wr.nb ((n + 4 : Nat) : Int) ++ ([l].flatten ++ low4 (Crc.sum [l].flatten)) := by rw [Wr.nb_nat]; simp [Wr.frame, hn]
    have HFR := Lib.hid hfr
    clear hP hF hL1 hn hfr
    generalize [l].flatten ++ low4 (Crc.sum [l].flatten) = S at *
    go_enter Tryz.func49, Tryz.ntmps49
    go_upto_region 4 with (first
      | (go_at_call 102; refine hseal.mono ?_; clear hseal; rintro e w1 ⟨v, rfl, hown, hb⟩; obtain ⟨A1, c1, rfl, hc1, hcm1, hrd1⟩ := hown.slice)
      | fail)
    rw [hl1] at hc1
    have hnum := number_any (.slice none 0 0) [] ((n + 4 : Nat) : Int) w.heap.size w1 (by omega) (by simp) (by have := HL1.out.size; have := hb.size; omega) (Own.nil _ _ _)
    have hL2 := Later.call HL1.out hb
    have hnl := Wr.nb_le ((n + 4 : Nat) : Int)
    clear hb hown
    generalize Wr.nb ((n + 4 : Nat) : Int) = N at *
    go_wp2_with (first
      | (go_at_call 60; refine hnum.mono ?_; clear hnum; rintro e w2 ⟨v2, rfl, hown2, hgr2⟩; have hrd2 := hrd1.grown hgr2.1 (fun b o e hne => by intro h; cases h); have hL3 := hL2.grown hgr2.1 hL2.size (fun j e => by cases e))
      | (at_builtin; refine wpList_append_bytes rfl (.tmp 13) (.tmp 14) 32 rfl w.heap.size 5 Tryz.underlying32 byteInfo _ _ rfl hown2 A1 (n + 4) c1 S rfl hl1 hrd2 (by simp; omega) hL3.size ?_; intro v3 w3 hown3 hg3 hat3; obtain ⟨A3, n3, c3, rfl⟩ := hown3.shape)
      | fail)
    go_ret2
    exact ⟨_, rfl, by rw [HFR.out]; exact hown3, hL3.grown hg3 hL3.size (fun j e => (hown2.at_ j e).1)⟩
  · have hd : decide ((8192 : Int) < (n : Int)) = true := decide_eq_true (by omega)
    have hd' : decide (8192 < n) = true := decide_eq_true (by omega)
    rw [if_neg hbig, if_neg hbig]
    go_enter Tryz.func49, Tryz.ntmps49
    go_wp2_with fail
    go_ret2
    exact ⟨_, rfl, Own.nil _ _ _, Below.refl _ _⟩
end Go.Proofs.YtcajhdmppfiaeaaGreat
namespace Go.Proofs.YtcajhdmppfiaeaaGreat
open Go.RowKit
def Low {β : Type} (C : Nat → Prop) (B : Nat) (J : β → World → Prop) : Prop := ∀ s X Y, J s X → Same (fun k => k < B ∧ ¬ C k) X Y → J s Y
theorem Low.below {β : Type} {C : Nat → Prop} {B : Nat} {J : β → World → Prop} (h : Low C B J) {s : β} {X Y : World} (hs : J s X) (hb : Below B X Y) : J s Y := h s X Y hs ((Same.of_below hb).mono fun k hk => hk.1)
def SeqW {α : Type} (F : Fence) (n : Nat) (P : Program) (g : Nat) (lb : Array Value) (encs : α → Array Value) (Kp : α → World → World → Prop) (S Sp : List α → Prop) (Ok : List α → α → World → Prop) (C : Nat → Prop) (W : World) : Prop :=
  ∀ (l : Nat) (J Jx : List α → World → Prop) (W1 : World), Below W.heap.size W W1 → W.heap.size + 2 ≤ W1.heap.size → Low C W1.heap.size J → Low C W1.heap.size Jx →
    (∀ pre x X, J pre X → Ok pre x X → YieldAt F (n - 1) P l (encs x) X fun e Y => (e = .returned (.bool true) ∧ J (pre ++ [x]) Y ∧ Kp x X Y) ∨ (e = .returned (.bool false) ∧ Jx (pre ++ [x]) Y ∧ Kp x X Y)) →
    J [] W1 → CallsIn F n P g (#[.func (.yield l) #[] #[]] ++ lb) W1 fun e Y => (∃ v, e = .returned v) ∧ ((∃ xs, S xs ∧ J xs Y) ∨ ∃ pre, Sp pre ∧ Jx pre Y)
def leftW {α : Type} (B : Nat) (Kp : World → World → Prop) (I : List α → World → Prop) (Ix : Code → List α → World → Prop) (xs : List α) (W : World) : Exit → Act → World → Prop
  | .normal, _, Y => KeepsFrom B W Y ∧ Kp W Y ∧ I xs Y
  | .ret, _, Y => KeepsFrom B W Y ∧ Kp W Y ∧ Ix .ret xs Y
  | .exit id, _, Y => KeepsFrom B W Y ∧ Kp W Y ∧ Ix (.exit id) xs Y
  | .goto t, _, Y => KeepsFrom B W Y ∧ Kp W Y ∧ Ix (.goto t) xs Y
  | .panic _, _, _ => False
  | .outgrown, _, _ => False
theorem below_put (B : Nat) (X : World) (l : Nat) (o : Obj) (hl : B ≤ l) (hs : B ≤ X.heap.size) : Below B X (X.putObj l o) :=
  (Below.refl B X).grown (grownBy_putObj' X l o) hs (fun k e => by cases e; exact hl)
section
variable {F : Fence} {n : Nat} {P : Program}
theorem wpIn_range_W {α : Type} {g : Operand} {ps : Array Tmp} {assign body : Code} {Q : Exit → Act → World → Prop} {a : Act} {w : World}
    (hro : F.round = none) (h1 : 1 ≤ n) {gf : Nat} {lb : Array Value} (hg : a.eval g = .func (.func gf) #[] lb) (hFg : F.fn gf) (eg : ∀ args w, (callFunc gf args).run P w = .ok (.enter gf args) w)
    {encs : α → Array Value} {Kp : α → World → World → Prop} {S Sp : List α → Prop} {Ok : List α → α → World → Prop} {C : Nat → Prop} {w0 : World} (hseq : SeqW F (n - 1) P gf lb encs Kp S Sp Ok C w0) (hC : ∀ r, C r → r < w.heap.size)
    (hKt : ∀ {x : α} {A B D : World}, Kp x A B → Kp x B D → Kp x A D) (hKb : ∀ (x : α) (W : World) (o : Obj), Kp x W (W.putObj (w.heap.size + 1) o)) (hb0 : Below w0.heap.size w0 w) (hps : ∀ x, (encs x).size = ps.size)
    (I : List α → World → Prop) (Ix : Code → List α → World → Prop) (hI : Low C w.heap.size I) (hIx : ∀ c, Low C w.heap.size (Ix c)) (h0 : I [] w)
    (Ax : List α → α → Act → World → Prop) (hAx : ∀ pre x a' W o, Ax pre x a' W → Ax pre x a' (W.putObj (w.heap.size + 1) o))
    (hassign : ∀ (l : Nat) (pre : List α) (x : α) (W : World) (K : Act → World → Prop), w.heap.size + 2 ≤ W.heap.size → I pre W → Ok pre x W → (∀ a' Y, KeepsFrom w.heap.size W Y → Kp x W Y → I pre Y → Ax pre x a' Y → K a' Y) →
      assign.wpIn (F.inRound l) (n - 1 - 1) P (Exit.then K (fun _ _ _ => False)) { tmps := (ps.zip (encs x)).foldl (fun t (p, v) => t.setIfInBounds p v) a.tmps, defers := [] } W)
    (hbody : ∀ (l : Nat) (pre : List α) (x : α) (a' : Act) (W : World), w.heap.size ≤ l → (∃ r, W.heap[l]? = some (.loop r)) → w.heap.size + 2 ≤ W.heap.size → I pre W → Ax pre x a' W → body.wpIn (F.inRound l) (n - 1 - 1) P (leftW w.heap.size (Kp x) I Ix (pre ++ [x]) W) a' W)
    (hdone : ∀ (D : Nat) (xs : List α) (W : World), w.heap.size ≤ D → S xs → I xs W → W.heap[D]? = some (.deferred (some [])) → Q .normal { a with defers := { target := .collected D, args := #[] } :: a.defers } W)
    (hstop : ∀ (D : Nat) (c : Code) (pre : List α) (W : World), w.heap.size ≤ D → Sp pre → Ix c pre W → W.heap[D]? = some (.deferred (some [])) → c.wpIn F n P Q { a with defers := { target := .collected D, args := #[] } :: a.defers } W) :
    (Code.rangeFunc g ps assign body).wpIn F n P Q a w := by
  refine wpIn_rangeFunc fun fn hfn => ?_
  rw [hro]
  have book1 : Booked (bookOf fn a.tmps ps assign body w.heap.size) w.heap.size .ready none ((w.alloc (.deferred (some []))).alloc (.loop (bookOf fn a.tmps ps assign body w.heap.size .ready none))) := by
    refine ⟨?_, (Below.heap_alloc _ _ _ (by simp)).trans (World.alloc_heap_new w _)⟩
    have := World.alloc_heap_new (w.alloc (.deferred (some []))) (.loop (bookOf fn a.tmps ps assign body w.heap.size .ready none))
    rwa [World.size_alloc] at this
  have hbw : Below w.heap.size w ((w.alloc (.deferred (some []))).alloc (.loop (bookOf fn a.tmps ps assign body w.heap.size .ready none))) :=
    (((Below.refl _ w).alloc (Nat.le_refl _) _).alloc (by simp) _)
  have hb1 : Below w0.heap.size w0 ((w.alloc (.deferred (some []))).alloc (.loop (bookOf fn a.tmps ps assign body w.heap.size .ready none))) := hb0.trans (hbw.mono hb0.size)
  have hi1 := hI.below h0 hbw
  have hsz1 : ((w.alloc (.deferred (some []))).alloc (.loop (bookOf fn a.tmps ps assign body w.heap.size .ready none))).heap.size = w.heap.size + 2 := by simp
  have henter := run_enterLoop_outer (P := P) (w := w) fn a.tmps ps assign body
  generalize hW1 : (w.alloc (.deferred (some []))).alloc (.loop (bookOf fn a.tmps ps assign body w.heap.size .ready none)) = W1 at book1 hb1 hi1 hsz1
  refine ⟨w.heap.size + 1, [{ target := .collected w.heap.size, args := #[] }], W1, { target := .fn (.func gf) lb, args := #[.func (.yield (w.heap.size + 1)) #[] #[]] }, W1, gf,
    #[.func (.yield (w.heap.size + 1)) #[] #[]] ++ lb, W1, ?_, ?_, ?_, ?_, fun _ => h1, ?_⟩
  · rw [← hW1]; exact henter
  · simp only [resolve, hg]; simp [go_sem]
  · intro f' hf'; simp [Target.leads] at hf'; subst hf'; exact hFg
  · simp [invoke, go_sem, eg]
  clear henter hW1 hbw
  have hput : ∀ {s : List α} {X : World} (o : Obj), w.heap.size ≤ X.heap.size → I s X → I s (X.putObj (w.heap.size + 1) o) := fun o hs h => hI.below h (below_put _ _ _ _ (by omega) hs)
  have hputx : ∀ {c : Code} {s : List α} {X : World} (o : Obj), w.heap.size ≤ X.heap.size → Ix c s X → Ix c s (X.putObj (w.heap.size + 1) o) := fun o hs h => (hIx _).below h (below_put _ _ _ _ (by omega) hs)
  have hbook : ∀ {st : LoopState} {pe : Option Code} {X Y : World}, Booked (bookOf fn a.tmps ps assign body w.heap.size) w.heap.size st pe X → Same (fun k => k < W1.heap.size ∧ ¬ C k) X Y → Booked (bookOf fn a.tmps ps assign body w.heap.size) w.heap.size st pe Y := fun h hb => ⟨(hb.block _ ⟨by omega, fun h => by have := hC _ h; omega⟩).trans h.loop, (hb.block _ ⟨by omega, fun h => by have := hC _ h; omega⟩).trans h.defs⟩
  have hbs : ∀ {st : LoopState} {pe : Option Code} {X : World}, Booked (bookOf fn a.tmps ps assign body w.heap.size) w.heap.size st pe X → w.heap.size + 2 ≤ X.heap.size := fun h => by have := (Array.getElem?_eq_some_iff.1 h.loop).1; omega
  refine (hseq (w.heap.size + 1) (fun pre W => I pre W ∧ Booked (bookOf fn a.tmps ps assign body w.heap.size) w.heap.size .ready none W)
    (fun pre W => ∃ c, Ix c pre W ∧ Booked (bookOf fn a.tmps ps assign body w.heap.size) w.heap.size .done (some c) W) W1 hb1 (by have := hb0.size; omega)
    (fun s X Y hs hb => ⟨hI _ _ _ hs.1 (hb.mono fun k hk => ⟨by have := hk.1; omega, hk.2⟩), hbook hs.2 hb⟩)
    (fun s X Y hs hb => by obtain ⟨c, hc, hk⟩ := hs; exact ⟨c, hIx c _ _ _ hc (hb.mono fun k hk => ⟨by have := hk.1; omega, hk.2⟩), hbook hk hb⟩)
    (fun pre x X hX hok => ?_) ⟨hi1, book1⟩).mono ?_
  · obtain ⟨hi, hbk⟩ := hX
    refine ⟨fn, _, assign, body, run_yield (P := P) (args := encs x) hbk.loop (hps x), roundIn_of_wpIn hfn (hassign _ pre x X _ (hbs hbk) hi hok ?_)⟩
    intro a' Y hkf hkp hiY hax
    have hbY := hbk.keeps hkf
    refine ⟨_, run_beginRound hbY.loop rfl, ?_⟩
    have hbZ : Booked (bookOf fn a.tmps ps assign body w.heap.size) w.heap.size .busy none (Y.putObj (w.heap.size + 1) (.loop { bookOf fn a.tmps ps assign body w.heap.size .ready none with state := .busy })) := hbY.turn
    refine wpIn_mono (hbody _ pre x a' _ (by omega) ⟨_, hbZ.loop⟩ (hbs hbZ) (hput _ (by have := hbs hbY; omega) hiY) (hAx pre x a' _ _ hax)) ?_
    have fin : ∀ (jump : Option Code) (Z : World), KeepsFrom w.heap.size (Y.putObj (w.heap.size + 1) (.loop { bookOf fn a.tmps ps assign body w.heap.size .ready none with state := .busy })) Z →
        (Instr.endRound (w.heap.size + 1) jump).run P Z = .ok (.bool jump.isNone) (Z.putObj (w.heap.size + 1) (.loop (bookOf fn a.tmps ps assign body w.heap.size (if jump.isNone then .ready else .done) jump))) ∧
        Booked (bookOf fn a.tmps ps assign body w.heap.size) w.heap.size .busy none Z := fun jump Z hkZ =>
      ⟨run_endRound (P := P) jump (hbZ.keeps hkZ).loop, hbZ.keeps hkZ⟩
    rintro e a3 Z hp
    cases e with
    | normal =>
      obtain ⟨hk3, hkp3, hi3⟩ := hp
      obtain ⟨hr, hb3⟩ := fin none Z hk3
      have hzs := hbs hb3
      exact ⟨_, _, hr, .inl ⟨rfl, ⟨hput _ (by omega) hi3, hb3.turn⟩, hKt hkp (hKt (hKt (hKb _ _ _) hkp3) (hKb _ _ _))⟩⟩
    | ret =>
      obtain ⟨hk3, hkp3, hi3⟩ := hp
      obtain ⟨hr, hb3⟩ := fin (some .ret) Z hk3
      have hzs := hbs hb3
      exact ⟨_, _, hr, .inr ⟨rfl, ⟨.ret, hputx _ (by omega) hi3, hb3.turn⟩, hKt hkp (hKt (hKt (hKb _ _ _) hkp3) (hKb _ _ _))⟩⟩
    | exit id =>
      obtain ⟨hk3, hkp3, hi3⟩ := hp
      obtain ⟨hr, hb3⟩ := fin (some (.exit id)) Z hk3
      have hzs := hbs hb3
      exact ⟨_, _, hr, .inr ⟨rfl, ⟨.exit id, hputx _ (by omega) hi3, hb3.turn⟩, hKt hkp (hKt (hKt (hKb _ _ _) hkp3) (hKb _ _ _))⟩⟩
    | goto t =>
      obtain ⟨hk3, hkp3, hi3⟩ := hp
      obtain ⟨hr, hb3⟩ := fin (some (.goto t)) Z hk3
      have hzs := hbs hb3
      exact ⟨_, _, hr, .inr ⟨rfl, ⟨.goto t, hputx _ (by omega) hi3, hb3.turn⟩, hKt hkp (hKt (hKt (hKb _ _ _) hkp3) (hKb _ _ _))⟩⟩
    | panic ch => exact hp.elim
    | outgrown => exact hp.elim
  · rintro e W2 ⟨⟨v, rfl⟩, (⟨xs, hS, hi, hbk⟩ | ⟨pre, hSp, c, hi, hbk⟩)⟩
    · have hzs := hbs hbk
      exact ⟨none, _, run_endLoop (P := P) hbk.loop (by simp [bookOf]), hdone _ xs _ (Nat.le_refl _) hS (hput _ (by omega) hi) ((World.putObj_heap_other (by omega)).trans hbk.defs)⟩
    · have hzs := hbs hbk
      exact ⟨some c, _, run_endLoop (P := P) hbk.loop (by simp [bookOf]), hstop _ c pre _ (Nat.le_refl _) hSp (hputx _ (by omega) hi) ((World.putObj_heap_other (by omega)).trans hbk.defs)⟩
end
theorem YieldAt.inRound {m k l l' : Nat} {P : Program} {args : Array Value} {W : World} {R : Ending → World → Prop} (h : YieldAt Fence.wide m P l args W R) : YieldAt (Fence.wide.inRound l') k P l args W R := by
  obtain ⟨fn, tmps, assign, body, h1, h2⟩ := h
  exact ⟨fn, tmps, assign, body, h1, h2.1, fun c cs _ => h2.2 c cs (room_wide _)⟩
end Go.Proofs.YtcajhdmppfiaeaaGreat
namespace Go.Proofs.YtcajhdmppfiaeaaGreat
open Go.RowKit
namespace Wr
def rest : Nat → List UInt8 → List UInt8
  | 0, l => l
  | k + 1, l => (rest k l).drop (splitR (rest k l)).2.1.toNat
def goes (k : Nat) (l : List UInt8) : Bool := (splitR (rest k l)).2.2 == 0 && !((splitR (rest k l)).2.1 == 0)
def size (k : Nat) (l : List UInt8) : Int := (splitR (rest k l)).2.1
def body (k : Nat) (l : List UInt8) : List UInt8 := (splitR (rest k l)).1
theorem split_bounds (l : List UInt8) : 0 ≤ (splitR l).2.1 ∧ (splitR l).2.1 ≤ l.length ∧ (splitR l).1.length ≤ l.length := by
  obtain ⟨h1, h2, h3⟩ := first_le l
  have hp : (piece l).length ≤ l.length := by unfold piece; rw [List.length_take, List.length_drop]; omega
  have ho : (openB (piece l)).length ≤ (piece l).length := by unfold openB; split <;> simp
  unfold splitR
  split
  · simp
  · split
    · simp
    · split
      · simp
      · split
        · refine ⟨by show 0 ≤ (first l).2 + ((first l).1 : Int); omega, by show (first l).2 + ((first l).1 : Int) ≤ l.length; omega, by show (openB (piece l)).length ≤ l.length; omega⟩
        · simp
theorem rest_len (k : Nat) (l : List UInt8) : (rest k l).length ≤ l.length := by
  induction k with
  | zero => exact Nat.le_refl _
  | succ k ih => unfold rest; rw [List.length_drop]; omega
end Wr
theorem run_slice_from2 {P : Program} {t U : TypeId} {A : Option Addr} {n ca k : Nat} (ht : P.underlying t = some (.slice U)) (hi : ByteInfo P U) (h1 : k ≤ n) (h2 : n ≤ ca) :
    ∃ D, (∀ w : World, (Instr.slice t (.slice A n ca) (some (.int .i64 (k : Int))) none none).run P w = .ok (.slice D (n - k) (ca - k)) w) ∧ (∀ (W : World) (l : List UInt8), l.length = n → Rd W A l → Rd W D (l.drop k)) ∧ ∀ ad, D = some ad → ∃ ad', A = some ad' ∧ ad'.block = ad.block := by
  obtain ⟨i, hi0, hz, hs, hb⟩ := info_parts hi
  have he : P.elem t = U := by simp [Program.elem, ht]
  have ht' : P.underlying t = some (.slice (P.elem t)) := by rw [he]; exact ht
  refine ⟨if ca = k then A else A.map (·.add (k * 1)), fun w => ?_, fun W l hl hr => ?_, fun ad e => ?_⟩
  · rw [run_slice_l w t A n ca ht' .i64 (k : Int) (by omega) (by omega), he]
    simp [sizeOf, typeInfo, hi0, hs, sliced]
  · by_cases h : ca = k
    · have : l.drop k = [] := List.drop_eq_nil_of_le (by omega)
      rw [this]
      exact Rd.nil _ _
    · rw [if_neg h, Nat.mul_one]
      intro hne
      obtain ⟨b, o, e, hc⟩ := hr (by intro e; subst e; simp at hne)
      subst e
      refine ⟨b, o + k, by unfold Addr.add; simp, fun i hi' => ?_⟩
      rw [List.getElem_drop, Nat.add_assoc]
      exact hc (k + i) (by rw [List.length_drop] at hi'; omega)
  · split at e
    · exact ⟨ad, e, rfl⟩
    · rcases A with _ | x
      · cases e
      · refine ⟨x, rfl, ?_⟩
        have e2 : x.add (k * 1) = ad := Option.some.inj e
        rw [← e2]
        unfold Addr.add
        split <;> rfl
def lenV : Value → Nat
  | .slice _ n _ => n
  | _ => 0
structure Fr where
  at_ : Int
  A : Option Addr
  c : Nat
  body : List UInt8
  base : Nat
abbrev frE (x : Fr) : Array Value := #[.int .i64 x.at_, .slice x.A x.body.length x.c]
structure KeepW (D : Nat → Prop) (x : Fr) (X Y : World) : Prop where
  size : X.heap.size ≤ Y.heap.size
  block : ∀ b, b < X.heap.size → ¬ D b → (∀ o, x.A ≠ some ⟨b, o, none⟩) → Y.heap[b]? = X.heap[b]?
theorem KeepW.trans {D : Nat → Prop} {x : Fr} {X Y Z : World} (h : KeepW D x X Y) (k : KeepW D x Y Z) : KeepW D x X Z :=
  ⟨Nat.le_trans h.size k.size, fun b hb hd ha => (k.block b (Nat.lt_of_lt_of_le hb h.size) hd ha).trans (h.block b hb hd ha)⟩
theorem KeepW.row {D : Nat → Prop} {x : Fr} {X Y : World} {g : Nat} {t : TypeId} {cs : Array Value} (h : KeepW D x X Y) (hr : Row X g t cs) (hd : ¬ D g) (ha : ∀ o, x.A ≠ some ⟨g, o, none⟩) : Row Y g t cs := (h.block g hr.lt hd ha).trans hr
theorem KeepW.rd {D : Nat → Prop} {x : Fr} {X Y : World} {A : Option Addr} {l : List UInt8} (h : KeepW D x X Y) (hr : Rd X A l) (hd : ∀ b o, A = some ⟨b, o, none⟩ → ¬ D b ∧ ∀ o', x.A ≠ some ⟨b, o', none⟩) : Rd Y A l := fun hl => by
  obtain ⟨b, o, e, hc⟩ := hr hl
  have hb : b < X.heap.size := block_lt_of_cell (hc 0 (List.length_pos_iff.2 hl))
  exact ⟨b, o, e, fun i hi => (World.cell?_of_block (w := X) (a := ⟨b, o + i, none⟩) (h.block b hb (hd b o e).1 (hd b o e).2)).trans (hc i hi)⟩
def FrOk (sum : Bool) (B : Nat) (l : List UInt8) (pre : List Fr) (x : Fr) (X : World) : Prop :=
  Wr.goes pre.length l = true ∧ x.body = Wr.body pre.length l ∧ x.at_ = (if sum then ((List.range (pre.length + 1)).map fun i => Wr.size i l).sum else Wr.size pre.length l) ∧ Own 5 X x.base (.slice x.A x.body.length x.c) x.body ∧ B ≤ x.base ∧ x.base ≤ X.heap.size
set_option maxRecDepth 100000 in
set_option maxHeartbeats 4000000 in
theorem split1_seq (l : List UInt8) (gb gd : Nat) (A : Option Addr) (n c : Nat) (w : World) (n1 : Nat) (hn1 : 1 ≤ n1) (D : Nat → Prop) (hDb : ¬ D gb) (hDd : ¬ D gd) (hn : l.length = n) (hc : n ≤ c) (hcm : c ≤ 9223372036854775807) (hA : Rd w A l) (hAg : ∀ ad, A = some ad → ad.block = gd) (hk : Row w gb 32 #[.slice A n c]) (hbd : gb ≠ gd) (hgd : gd < w.heap.size) :
    SeqW Fence.wide n1 Tryz.prog 135 #[.pointer (some ⟨gb, 0, none⟩)] frE (KeepW D) (fun xs => Wr.goes xs.length l = false ∧ ∀ k, k < xs.length → Wr.goes k l = true) (fun _ => True) (FrOk false (w.heap.size + 2) l) (fun r => r = gb) w := fun k0 J Jx W hW hW2 hJ hJx hY h0 => by
  have hkW := hk.belowAll hW
  have hAW := hA.below hW
  have hgb : gb < w.heap.size := hk.lt
  have hWs := hW.size
  have HY := Lib.hid hY
  have HJ := Lib.hid hJ
  have HN := Lib.hid hn
  clear hY hJ hJx hk hA hW hn
  refine callsIn_of_wp Tryz.func135 rfl trivial ?_ rfl
  simp only [Tryz.ntmps135, List.size_toArray, List.length_cons, List.length_nil, Nat.reduceAdd, Nat.reduceSub, Array.replicate_succ, Array.replicate_zero, List.push_toArray, List.append_toArray, List.nil_append, List.cons_append]
  gi_wp2
  refine wpIn_scope_wide ?_
  gi_wp2
  refine wpIn_label ?_
  gi_wp2
  gi_loopw [3] (fun v wr => ∃ (pre : List Fr) (A' : Option Addr) (c' : Nat), Row wr gb 32 #[.slice A' (Wr.rest pre.length l).length c'] ∧ (Wr.rest pre.length l).length ≤ c' ∧ c' ≤ 9223372036854775807 ∧ Rd wr A' (Wr.rest pre.length l) ∧ (∀ ad, A' = some ad → ad.block = gd) ∧ (∀ k, k < pre.length → Wr.goes k l = true) ∧ W.heap.size ≤ wr.heap.size ∧ J pre wr) (fun _ wr => match wr.cell? ⟨gb, 0, none⟩ with | some (.slice _ m _) => m | _ => 0)
  case atStart => exact ⟨[], A, c, by show Row W gb _ #[.slice A l.length c]; rw [HN.out]; exact hkW, by show l.length ≤ c; rw [HN.out]; exact hc, hcm, hAW, hAg, by simp, Nat.le_refl _, h0⟩
  case round =>
    obtain ⟨pre, A', c', hkr, hcl, hcM, hRr, hAg', hgo, hsz, hJs⟩ := hrel
    clear hkW hAW h0
    obtain ⟨r, hr⟩ : ∃ r, Wr.rest pre.length l = r := ⟨_, rfl⟩
    obtain ⟨R, hR0⟩ : ∃ R, Wr.splitR r = R := ⟨_, rfl⟩
    have hgs : Wr.goes pre.length l = (R.2.2 == 0 && !(R.2.1 == 0)) := by unfold Wr.goes; rw [hr, hR0]
    have hbo : Wr.body pre.length l = R.1 := by unfold Wr.body; rw [hr, hR0]
    have hsi : Wr.size pre.length l = R.2.1 := by unfold Wr.size; rw [hr, hR0]
    have hrs : Wr.rest (pre.length + 1) l = r.drop R.2.1.toNat := by rw [Wr.rest, hr, hR0]
    have hbnd := Wr.split_bounds r
    rw [hR0] at hbnd
    rw [hr] at hkr hcl hRr
    obtain ⟨n0, hn0⟩ : ∃ m, r.length = m := ⟨_, rfl⟩
    rw [hn0] at hkr hcl hbnd
    have hsp := split_any A' n0 c' r wr hn0 hcl hcM hRr
    rw [hR0] at hsp
    obtain ⟨bd, sz, er⟩ := R
    simp only at hgs hbo hsi hrs hbnd hsp
    obtain ⟨hb1, hb2, hb3⟩ := hbnd
    have hc1 : wr.cell? ⟨gb, 0, none⟩ = some (.slice A' n0 c') := (hkr.cell 0).trans rfl
    have HG := Lib.hid hgs
    have HBO := Lib.hid hbo
    have HSI := Lib.hid hsi
    have HRS := Lib.hid hrs
    have HGO := Lib.hid hgo
    have HN0 := Lib.hid hn0
    have HC1 := Lib.hid hc1
    clear hgs hbo hsi hrs hgo hn0 hr hR0
    refine wpIn_wide.2 ?_
    go_upto_region 1 with (first
      | (go_at_call 55; refine hsp.mono ?_; clear hsp; rintro e w3 ⟨v3, rfl, hown3, hL3⟩; obtain ⟨A3, c3, rfl, hc3, hcm3, hrd3⟩ := hown3.slice)
      | fail)
    have hk3 := hkr.belowAll hL3
    have hR3 := hRr.below hL3
    have hJ3 := HJ.out.below hJs (hL3.mono hsz)
    have hs3 := hL3.size
    have hgbr : gb < wr.heap.size := by omega
    clear hkr hRr hJs hL3 hc1
    by_cases he0 : er = 0
    · subst he0
      by_cases hs0 : sz = 0
      · subst hs0
        go_wp2_with fail
        rw [Exit.noGoto_normal]
        go_end0
        exact ⟨⟨_, rfl⟩, .inl ⟨pre, ⟨by rw [HG.out]; rfl, HGO.out⟩, hJ3⟩⟩
      · obtain ⟨q, rfl⟩ : ∃ q : Nat, sz = q := ⟨sz.toNat, by omega⟩
        have hz : ((q : Int) == 0) = false := by simpa using hs0
        obtain ⟨D3, hs1, hD3, hDb3⟩ := run_slice_from2 (P := Tryz.prog) (t := 32) (U := 5) (A := A') (n := n0) (ca := c') (k := q) Tryz.underlying32 byteInfo (by omega) hcl
        obtain ⟨fn, tmps, assign, body, hy, hR⟩ := HY.out pre ⟨(q : Int), A3, c3, bd, wr.heap.size⟩ w3 hJ3 ⟨by rw [HG.out, hz]; rfl, HBO.out.symm, by rw [HSI.out]; rfl, hown3, by show w.heap.size + 2 ≤ wr.heap.size; omega, hs3⟩
        refine (wpIn_wide (n := n1)).1 ?_
        have hAb : ∀ b o, A3 = some ⟨b, o, none⟩ → wr.heap.size ≤ b := fun b o e => (hown3.at_ b (by rw [e]; rfl)).1
        have HOW := Lib.hid hown3
        clear hown3 hrd3 hc3 hcm3
        gi_wp2_with fail
        refine hR.mono ?_
        rintro e W5 (⟨rfl, hJ5, hk5⟩ | ⟨rfl, hJx5, _⟩)
        · have hkr5 := hk5.row hk3 hDb (fun o e => by have := hAb gb o e; omega)
          have hRr5 := hk5.rd hR3 (fun b o e => by have := hAg' _ e; simp only at this; subst this; exact ⟨hDd, fun o' e' => by have := hAb _ o' e'; omega⟩)
          have hD5 := hD3 W5 r HN0.out hRr5
          have c5 : W5.cell? ⟨gb, 0, none⟩ = some (.slice A' n0 c') := (hkr5.cell 0).trans rfl
          have f5 : W5.frozen? ⟨gb, 0, none⟩ = false := hkr5.frozen 0
          have hsz5 := hk5.size
          clear hk3 hR3 hRr5 hy hR hk5
          gi_wp2
          go_wp2_with fail
          go_roundw
          case rel =>
            refine ⟨pre ++ [⟨(q : Int), A3, c3, bd, wr.heap.size⟩], D3, c' - q, ?_, ?_, by omega, ?_, ?_, ?_, ?_, ?_⟩
            · rw [List.length_append, List.length_singleton, HRS.out, List.length_drop, HN0.out]
              exact hkr5.set 0 _
            · rw [List.length_append, List.length_singleton, HRS.out, List.length_drop, HN0.out]
              show n0 - q ≤ c' - q
              omega
            · rw [List.length_append, List.length_singleton, HRS.out]
              exact hD5.same (Same.set W5 ⟨gb, 0, none⟩ _) fun b o e _ => by
                obtain ⟨ad', h1, h2⟩ := hDb3 _ e
                have := hAg' _ h1
                simp only at h2
                show b ≠ gb
                omega
            · intro ad e
              obtain ⟨ad', h1, h2⟩ := hDb3 _ e
              rw [← h2]
              exact hAg' _ h1
            · intro k hk
              rw [List.length_append, List.length_singleton] at hk
              by_cases e : k = pre.length
              · rw [e, HG.out, hz]; rfl
              · exact HGO.out k (by omega)
            · simp [World.setCell]; omega
            · exact HJ.out _ _ _ hJ5 ((Same.set W5 ⟨gb, 0, none⟩ _).mono fun k hk => hk.2)
          case measure =>
            have hcv : (W5.setCell ⟨gb, 0, none⟩ (.slice D3 (n0 - q) (c' - q))).cell? ⟨gb, 0, none⟩ = some (.slice D3 (n0 - q) (c' - q)) := ((hkr5.set 0 _).cell 0).trans rfl
            rw [HC1.out, hcv]
            show n0 - q < n0
            omega
        · gi_wp2
          go_wp2_with fail
          rw [Exit.noGoto_normal]
          go_end0
          exact ⟨⟨_, rfl⟩, .inr ⟨_, trivial, hJx5⟩⟩
    · have hez : (er == 0) = false := by simpa using he0
      go_wp2_with fail
      rw [Exit.noGoto_normal]
      go_end0
      exact ⟨⟨_, rfl⟩, .inl ⟨pre, ⟨by rw [HG.out, hez]; rfl, HGO.out⟩, hJ3⟩⟩
end Go.Proofs.YtcajhdmppfiaeaaGreat
namespace Go.Proofs.YtcajhdmppfiaeaaGreat
open Go.RowKit
attribute [local go_sem] Oper.semAt_some
def Wr.upto (k : Nat) (l : List UInt8) : Int := ((List.range k).map fun i => Wr.size i l).sum
theorem Wr.upto_succ (k : Nat) (l : List UInt8) : Wr.upto (k + 1) l = Wr.upto k l + Wr.size k l := by
  unfold Wr.upto
  rw [List.range_succ, List.map_append, List.sum_append]
  simp
theorem Wr.upto_le (l : List UInt8) : ∀ k, (∀ i, i < k → Wr.goes i l = true) → 0 ≤ Wr.upto k l ∧ Wr.upto k l + (Wr.rest k l).length = l.length
  | 0, _ => by simp [Wr.upto, Wr.rest]
  | k + 1, h => by
    obtain ⟨h1, h2⟩ := Wr.upto_le l k (fun i hi => h i (by omega))
    obtain ⟨b1, b2, b3⟩ := Wr.split_bounds (Wr.rest k l)
    rw [Wr.upto_succ]
    unfold Wr.size
    rw [Wr.rest, List.length_drop]
    omega
theorem name_frame {P : Program} {c : Code} {Q : Exit → Act → World → Prop} {tm : Array Value} {d : List Deferred} {w : World} (h : ∀ T, T = tm → c.wp P Q { tmps := T, defers := d } w) : c.wp P Q { tmps := tm, defers := d } w := h tm rfl
theorem KeepW.refl (D : Nat → Prop) (x : Fr) (X : World) : KeepW D x X X := ⟨Nat.le_refl _, fun _ _ _ _ => rfl⟩
theorem KeepW.mono {D D' : Nat → Prop} {x x' : Fr} {X Y : World} (h : KeepW D x X Y) (hD : ∀ b, D b → D' b) (hx : x'.A = x.A) : KeepW D' x' X Y := ⟨h.size, fun b hb hd ha => h.block b hb (fun k => hd (hD b k)) (fun o e => ha o (hx ▸ e))⟩
theorem KeepW.put {D : Nat → Prop} {x : Fr} (W : World) {l : Nat} (o : Obj) (hl : D l) : KeepW D x W (W.putObj l o) := ⟨by simp [World.putObj], fun b hb hd _ => World.putObj_heap_other (fun e => hd (e ▸ hl))⟩
theorem KeepW.set {D : Nat → Prop} {x : Fr} (W : World) (p : Addr) (v : Value) (hp : D p.block) : KeepW D x W (W.setCell p v) := ⟨by simp [World.setCell], fun b hb hd _ => Below.heap_setCell W p v b (fun e => hd (e ▸ hp))⟩
theorem KeepW.from {D : Nat → Prop} {x : Fr} {X Y : World} {B : Nat} (h : KeepW D x X Y) (hD : ∀ b, D b → b < B) (hx : ∀ b o, x.A = some ⟨b, o, none⟩ → ∃ ob, X.heap[b]? = some ob ∧ ob.isCells = true) : KeepsFrom B X Y := ⟨h.size, fun k o hk hko hc => by
  have hlt := (Array.getElem?_eq_some_iff.1 hko).1
  refine (h.block k hlt (fun hd => by have := hD k hd; omega) (fun o' e => ?_)).trans hko
  obtain ⟨ob, h1, h2⟩ := hx k o' e
  rw [hko] at h1
  cases h1
  rw [hc] at h2
  cases h2⟩
theorem FrOk.cells {sum : Bool} {B : Nat} {l : List UInt8} {pre : List Fr} {x : Fr} {X : World} (h : FrOk sum B l pre x X) {b o : Nat} (e : x.A = some ⟨b, o, none⟩) : ∃ ob, X.heap[b]? = some ob ∧ ob.isCells = true := by
  rcases h.2.2.2.1.2 with ⟨e2, _⟩ | ⟨g, cap, cur, e2, hb, hh, _⟩
  · injection e2 with e2 _ _
    rw [e] at e2
    cases e2
  · injection e2 with e2 _ _
    rw [e] at e2
    injection e2 with e2
    injection e2 with e2
    subst e2
    exact ⟨_, hh, rfl⟩
theorem wpListIn_load {F : Fence} {n : Nat} {P : Program} {w : World} {ops : Array Oper} {rest : List Oper} {o : Oper} {a : Act} {Q : Exit → Act → World → Prop} (hgd : o.guard = none) (T : TypeId) (x : Operand) (ho : o.op = .load T x) (vx : Value) (hx : a.eval x = vx) {v : Value} {w' : World}
    (hr : (Instr.loadAt T vx).run P w = .ok v w') (h : wpListIn F n P ops Q rest (a.put o.dst v) w') : wpListIn F n P ops Q (o :: rest) a w := by
  refine wpListIn_plain hgd fun K hK => ?_
  unfold Oper.wpIn
  refine ⟨?_, ?_⟩
  · simp [Oper.about, ho]
  · rw [Oper.semAt_plain F _ _ (by rw [ho]; intro c hc'; cases hc')]
    simp [execOp, ho, hx, hr, Result.andThen]
    exact hK _ _ h
section
variable {F : Fence} {n : Nat} {P : Program} {w : World} {ops : Array Oper} {rest : List Oper} {o : Oper} {a : Act} {Q : Exit → Act → World → Prop}
theorem wpListIn_allocR (hgd : o.guard = none) (T : TypeId) (ho : o.op = .alloc T) {v : Value} {w' : World} (hr : (Instr.alloc T true (.tuple #[])).run P w = .ok v w')
    (h : wpListIn F n P ops Q rest (a.put o.dst v) w') : wpListIn F n P ops Q (o :: rest) a w := by
  refine wpListIn_plain hgd fun K hK => ?_
  unfold Oper.wpIn
  refine ⟨?_, ?_⟩
  · simp [Oper.about, ho]
  · rw [Oper.semAt_plain F _ _ (by rw [ho]; intro c hc'; cases hc')]
    simp [execOp, ho, hr, Result.andThen]
    exact hK _ _ h
theorem wpListIn_storeR (hgd : o.guard = none) (T : TypeId) (x y : Operand) (ho : o.op = .store T x y) (vx vy : Value) (hx : a.eval x = vx) (hy : a.eval y = vy) {w' : World} (hr : (Instr.storeAt T vx vy).run P w = .ok () w')
    (h : wpListIn F n P ops Q rest (a.put o.dst undef) w') : wpListIn F n P ops Q (o :: rest) a w := by
  refine wpListIn_plain hgd fun K hK => ?_
  unfold Oper.wpIn
  refine ⟨?_, ?_⟩
  · simp [Oper.about, ho]
  · rw [Oper.semAt_plain F _ _ (by rw [ho]; intro c hc'; cases hc')]
    simp [execOp, ho, hx, hy, hr, Result.andThen]
    exact hK _ _ h
end
theorem KeepsFrom.of_later {B : Nat} {W W' : World} (h : Later W W') : KeepsFrom B W W' := ⟨h.size, fun k o _ hk _ => (Below.block h k (Array.getElem?_eq_some_iff.1 hk).1).trans hk⟩
theorem loadFn {b o : Nat} {v : Value} {W : World} (hc : W.cell? ⟨b, o, none⟩ = some v) : (Instr.loadAt 152 (.pointer (some ⟨b, o, none⟩))).run Tryz.prog W = .ok v W := by
  go_simp
theorem storeInt {b o : Nat} {x y : Int} {W : World} (hc : W.cell? ⟨b, o, none⟩ = some (.int .i64 x)) (hf : W.frozen? ⟨b, o, none⟩ = false) : (Instr.storeAt 3 (.pointer (some ⟨b, o, none⟩)) (.int .i64 y)).run Tryz.prog W = .ok () (W.setCell ⟨b, o, none⟩ (.int .i64 y)) := by
  go_simp
theorem wsplit_any (A : Option Addr) (n c : Nat) (w : World) : Calls Tryz.prog 105 #[.slice A n c] w fun e w' => w' = w.alloc (.cells #[.slice A n c] 32) ∧ e = .returned (.func (.func 135) #[] #[.pointer (some ⟨w.heap.size, 0, none⟩)]) := by
  have hmf : ∀ (fn : Fn) (first cap : Array Value) (w : World), (Instr.makeFunc fn first cap).run Tryz.prog w = .ok (.func fn first cap) w := fun _ _ _ _ => rfl
  go_enter Tryz.func105, Tryz.ntmps105
  go_wp2
  go_ret
  exact ⟨rfl, rfl⟩
set_option maxRecDepth 100000 in
set_option maxHeartbeats 4000000 in
theorem frames1_seq (l : List UInt8) (gf gd : Nat) (A : Option Addr) (n c : Nat) (w : World) (n1 : Nat) (hn1 : 3 ≤ n1) (D : Nat → Prop) (hDw : ∀ b, D b → b < w.heap.size + 2) (hDf : ¬ D gf) (hDd : ¬ D gd) (hn : l.length = n) (hc : n ≤ c) (hcm : c ≤ 9223372036854775807) (hA : Rd w A l) (hAg : ∀ ad, A = some ad → ad.block = gd) (hk : Row w gf 32 #[.slice A n c]) (hgd : gd < w.heap.size) :
    SeqW Fence.wide n1 Tryz.prog 104 #[.pointer (some ⟨gf, 0, none⟩)] frE (KeepW D) (fun xs => Wr.goes xs.length l = false ∧ ∀ k, k < xs.length → Wr.goes k l = true) (fun _ => True) (FrOk true (w.heap.size + 2) l) (fun _ => False) w := fun k0 J Jx W hW hW2 hJ hJx hY h0 => by
  have hkW := hk.belowAll hW
  have hAW := hA.below hW
  have hgf : gf < w.heap.size := hk.lt
  have hmf : ∀ (fn : Fn) (first cap : Array Value) (w : World), (Instr.makeFunc fn first cap).run Tryz.prog w = .ok (.func fn first cap) w := fun _ _ _ _ => rfl
  have HY := Lib.hid hY
  have HJ := Lib.hid hJ
  have HJx := Lib.hid hJx
  have HN := Lib.hid hn
  clear hY hJ hJx hk hA hW hn
  refine callsIn_of_wp_marks Tryz.func104 rfl trivial ?_ rfl
  simp only [Tryz.ntmps104, List.size_toArray, List.length_cons, List.length_nil, Nat.reduceAdd, Nat.reduceSub, Array.replicate_succ, Array.replicate_zero, List.push_toArray, List.append_toArray, List.nil_append, List.cons_append]
  refine wpIn_wide.2 ?_
  have c1 : W.cell? ⟨gf, 0, none⟩ = some (.slice A n c) := (hkW.cell 0).trans rfl
  go_upto_region 2 with fail
  have hsz : W.heap.size = W.heap.size := rfl
  obtain ⟨q2, hq2⟩ : ∃ q, q = W.heap.size := ⟨_, rfl⟩
  have k2 := (Row.new W 152 #[.func (.yield k0) #[] #[]]).alloc (.cells #[.int .i64 0] 3)
  have k3 := Row.new (W.alloc (.cells #[.func (.yield k0) #[] #[]] 152)) 3 #[.int .i64 0]
  have hb3 : Below W.heap.size W ((W.alloc (.cells #[.func (.yield k0) #[] #[]] 152)).alloc (.cells #[.int .i64 0] 3)) := below_new2 W _ _
  simp only [World.size_alloc] at k3
  rw [← hq2] at k2 k3 ⊢
  have hws := wsplit_any A n c ((W.alloc (.cells #[.func (.yield k0) #[] #[]] 152)).alloc (.cells #[.int .i64 0] 3))
  have hw3s : ((W.alloc (.cells #[.func (.yield k0) #[] #[]] 152)).alloc (.cells #[.int .i64 0] 3)).heap.size = q2 + 1 + 1 := by rw [World.size_alloc, World.size_alloc, hq2]
  have HQ2 := Lib.hid hq2
  clear hq2 hsz c1
  generalize (W.alloc (.cells #[.func (.yield k0) #[] #[]] 152)).alloc (.cells #[.int .i64 0] 3) = w3 at *
  have c13 : w3.cell? ⟨gf, 0, none⟩ = some (.slice A n c) := ((hkW.belowAll hb3).cell 0).trans rfl
  go_wp2_with (first
    | (go_at_call 105; refine hws.mono ?_; clear hws; rintro e w4 ⟨rfl, rfl⟩)
    | fail)
  obtain ⟨w5, hw5⟩ : ∃ x, x = w3.alloc (.cells #[.slice A n c] 32) := ⟨_, rfl⟩
  have kb := Row.new w3 32 #[.slice A n c]
  have k25 := k2.alloc (.cells #[.slice A n c] 32)
  have k35 := k3.alloc (.cells #[.slice A n c] 32)
  have hb5 : Below W.heap.size W (w3.alloc (.cells #[.slice A n c] 32)) := hb3.alloc hb3.size _
  have hw5s : (w3.alloc (.cells #[.slice A n c] 32)).heap.size = q2 + 3 := by rw [World.size_alloc, hw3s]
  rw [hw3s] at kb
  rw [← hw5] at kb k25 k35 hb5 hw5s ⊢
  have hA5 := hAW.below hb5
  have hq2W : q2 = W.heap.size := HQ2.out
  have hD5 : ∀ b, D b → b < q2 := fun b hb => by have := hDw b hb; omega
  have hn1b : ¬ (D (q2 + 1 + 1) ∨ q2 + 1 + 1 = q2 + 1 ∨ q2 + 1 + 1 = w5.heap.size + 1) := by
    rintro (h | h | h)
    · have := hD5 _ h; omega
    · omega
    · omega
  have hn1d : ¬ (D gd ∨ gd = q2 + 1 ∨ gd = w5.heap.size + 1) := by
    rintro (h | h | h)
    · exact hDd h
    · omega
    · omega
  have hseq := split1_seq l (q2 + 1 + 1) gd A n c w5 (n1 - 1) (by omega) (fun b => D b ∨ b = q2 + 1 ∨ b = w5.heap.size + 1) hn1b hn1d HN.out hc hcm hA5 hAg kb (by omega) (by omega)
  have HS := Lib.hid hseq
  have HJ5 := HJ.out.below h0 hb5
  clear hseq h0 hkW hAW c13 hb3 hw3s k2 k3 hw5 hA5 hmf
  refine name_frame fun T0 hT0 => ?_
  refine (wpIn_wide (n := n1)).1 ?_
  refine wpIn_range_W (α := Fr) (Kp := KeepW (fun b => D b ∨ b = q2 + 1 ∨ b = w5.heap.size + 1)) rfl (by omega) (gf := 135) (lb := #[.pointer (some ⟨q2 + 1 + 1, 0, none⟩)]) (by rw [hT0]; rfl) trivial (enters_of Tryz.func135 (by kernel_rfl) rfl)
    HS.out (fun r h => by subst h; omega) (fun h k => h.trans k) (fun x W o => KeepW.put W o (.inr (.inr rfl))) (Below.refl _ _) (fun _ => rfl)
    (fun pre X => (∃ pre' : List Fr, pre'.length = pre.length ∧ J pre' X) ∧ (∀ i, i < pre.length → Wr.goes i l = true) ∧ Row X (q2 + 1) 3 #[.int .i64 (Wr.upto pre.length l)] ∧ Row X q2 152 #[.func (.yield k0) #[] #[]])
    (fun c _ X => c = Code.ret ∧ ∃ pre' : List Fr, Jx pre' X)
    (fun pre X Y ⟨⟨pre', h1, h2⟩, h3, h4, h5⟩ hs => ⟨⟨pre', h1, HJ.out _ _ _ h2 (hs.mono fun k hk => ⟨by omega, by omega⟩)⟩, h3, h4.same hs ⟨by omega, by omega⟩, h5.same hs ⟨by omega, by omega⟩⟩)
    (fun c pre X Y ⟨h1, pre', h2⟩ hs => ⟨h1, pre', HJx.out _ _ _ h2 (hs.mono fun k hk => ⟨by omega, by omega⟩)⟩)
    ⟨⟨[], rfl, HJ5⟩, by simp, by simpa [Wr.upto] using k35, k25⟩
    (fun pre x a' X => a' = { tmps := ((((T0.setIfInBounds 8 (.int .i64 x.at_)).setIfInBounds 9 (.slice x.A x.body.length x.c)).setIfInBounds 4 (.int .i64 x.at_)).setIfInBounds 5 (.slice x.A x.body.length x.c)), defers := [] } ∧ FrOk false (w5.heap.size + 2) l pre x X)
    (fun pre x a' X o ⟨h1, h2, h3, h4, h5, h6, h7⟩ => ⟨h1, h2, h3, h4, h5.keep (fun b _ e => World.putObj_heap_other (by intro e2; subst e2; have := (h5.at_ _ e).1; omega)), h6, by simpa [World.putObj] using h7⟩) ?assign ?body ?done ?stop
  case assign =>
    intro l0 pre x X K hXs hi hok hK
    have HK := Lib.hid hK
    have HI := Lib.hid hi
    have HOK := Lib.hid hok
    clear hK hi hok
    have e89 : ((#[8, 9] : Array Tmp).zip (frE x)).foldl (fun t (p, v) => t.setIfInBounds p v) T0 = (T0.setIfInBounds 8 (.int .i64 x.at_)).setIfInBounds 9 (.slice x.A x.body.length x.c) := by simp
    rw [e89, hT0]
    clear e89
    simp only [List.setIfInBounds_toArray, List.set_cons_succ, List.set_cons_zero]
    gi_wp2
    exact HK.out _ _ (KeepsFrom.refl _ _) (KeepW.refl _ _ _) HI.out ⟨by rw [hT0]; rfl, HOK.out⟩
  case body =>
    rintro l0 pre x a' X hl hlo hXs ⟨⟨pre', h1, h2⟩, h3, h4, h5⟩ ⟨rfl, hok⟩
    have hok' := hok
    obtain ⟨g1, g2, g3, hown, g5, g6⟩ := hok
    rw [if_neg (by simp)] at g3
    have hgo : ∀ i, i < pre.length + 1 → Wr.goes i l = true := fun i hi => by
      by_cases e : i = pre.length
      · rw [e]; exact g1
      · exact h3 i (by omega)
    have hup := Wr.upto_succ pre.length l
    rw [← g3] at hup
    obtain ⟨u1, u2⟩ := Wr.upto_le l pre.length h3
    obtain ⟨v1, v2⟩ := Wr.upto_le l (pre.length + 1) hgo
    have hb0 := (Wr.split_bounds (Wr.rest pre.length l)).1
    have hx0 : 0 ≤ x.at_ := by rw [g3]; exact hb0
    have hll : l.length ≤ 9223372036854775807 := by rw [HN.out]; omega
    obtain ⟨U, hU⟩ : ∃ U, Wr.upto pre.length l = U := ⟨_, rfl⟩
    obtain ⟨V, hV⟩ : ∃ V, Wr.upto (pre.length + 1) l = V := ⟨_, rfl⟩
    rw [hU] at h4 hup u1 u2
    rw [hV] at hup v1 v2
    have hVb : V ≤ 9223372036854775807 := by omega
    have hAb : ∀ b o, x.A = some ⟨b, o, none⟩ → w5.heap.size + 2 ≤ b := fun b o e => by have := (hown.at_ b (by rw [e]; rfl)).1; omega
    have c3 : X.cell? ⟨q2 + 1, 0, none⟩ = some (.int .i64 U) := (h4.cell 0).trans rfl
    have f3 : X.frozen? ⟨q2 + 1, 0, none⟩ = false := h4.frozen 0
    have c2 : X.cell? ⟨q2, 0, none⟩ = some (.func (.yield k0) #[] #[]) := (h5.cell 0).trans rfl
    have hset := h4.set 0 (.int .i64 V)
    have h51 := h5.far (p := ⟨q2 + 1, 0, none⟩) (by show q2 ≠ q2 + 1; omega) (.int .i64 V)
    have c21 : (X.setCell ⟨q2 + 1, 0, none⟩ (.int .i64 V)).cell? ⟨q2, 0, none⟩ = some (.func (.yield k0) #[] #[]) := (h51.cell 0).trans rfl
    have c31 : (X.setCell ⟨q2 + 1, 0, none⟩ (.int .i64 V)).cell? ⟨q2 + 1, 0, none⟩ = some (.int .i64 V) := (hset.cell 0).trans rfl
    have hJ1 : J pre' (X.setCell ⟨q2 + 1, 0, none⟩ (.int .i64 V)) := HJ.out _ _ _ h2 ((Same.set X ⟨q2 + 1, 0, none⟩ (.int .i64 V)).mono fun k hk => by show k ≠ q2 + 1; have := hk.1; omega)
    have hok1 : FrOk true (w.heap.size + 2) l pre' { x with at_ := V } (X.setCell ⟨q2 + 1, 0, none⟩ (.int .i64 V)) := by
      refine ⟨by rw [h1]; exact g1, by rw [h1]; exact g2, by rw [if_pos rfl, h1]; exact hV.symm, hown.keep (fun b _ e => ?_), by show w.heap.size + 2 ≤ x.base; omega, by { have e : (X.setCell ⟨q2 + 1, 0, none⟩ (.int .i64 V)).heap.size = X.heap.size := (by simp [World.setCell]); rw [e]; exact g6 }⟩
      exact Below.heap_setCell _ _ _ _ (by show b ≠ q2 + 1; have := (hown.at_ b e).1; omega)
    obtain ⟨fn, tmps, assign, body, hy, hR⟩ := YieldAt.inRound (l' := l0) (k := n1 - 1 - 1 - 1) (HY.out pre' { x with at_ := V } _ hJ1 hok1)
    rw [hT0]
    clear HS
    simp only [List.setIfInBounds_toArray, List.set_cons_succ, List.set_cons_zero]
    have hup' := hup.symm
    have HQ2W := Lib.hid hq2W
    have HG2 := Lib.hid g2
    have HG3 := Lib.hid g3
    have hVe := Lib.hid hV
    clear hq2W g2 g3 hU hV
    have hl1 := loadInt c3
    have hs1 := storeInt (y := V) c3 f3
    have hl2 := loadFn c21
    have hl3 := loadInt c31
    clear hup
    gi_wp2_with (first
      | (refine wpListIn_load rfl 3 (.tmp 3) rfl (.pointer (some ⟨q2 + 1, 0, none⟩)) rfl hl1 ?_)
      | (refine wpListIn_storeR rfl 3 (.tmp 3) (.tmp 12) rfl (.pointer (some ⟨q2 + 1, 0, none⟩)) (.int .i64 V) rfl rfl hs1 ?_)
      | (refine wpListIn_load rfl 152 (.tmp 2) rfl (.pointer (some ⟨q2, 0, none⟩)) rfl hl2 ?_)
      | (refine wpListIn_load rfl 3 (.tmp 3) rfl (.pointer (some ⟨q2 + 1, 0, none⟩)) rfl hl3 ?_)
      | fail)
    refine ⟨fun _ => by omega, hR.mono ?_⟩
    have hplen : (pre ++ [x]).length = pre.length + 1 := by simp
    have hkD : ∀ Y, KeepW D { x with at_ := V } (X.setCell ⟨q2 + 1, 0, none⟩ (.int .i64 V)) Y → KeepW (fun b => D b ∨ b = q2 + 1 ∨ b = w5.heap.size + 1) x X Y := fun Y hk => (KeepW.set X ⟨q2 + 1, 0, none⟩ (.int .i64 V) (.inr (.inl rfl))).trans (hk.mono (fun b h => .inl h) rfl)
    have hkF : ∀ Y, KeepW D { x with at_ := V } (X.setCell ⟨q2 + 1, 0, none⟩ (.int .i64 V)) Y → KeepsFrom w5.heap.size X Y := fun Y hk => (KeepsFrom.of_grownBy (grown_set X (q2 + 1) 0 (.int .i64 V)) (fun j e => by cases e; omega)).trans (hk.from (fun b h => by have := hD5 b h; omega) (fun b o e => hok1.cells e))
    rintro e Y (⟨rfl, hJ5, hk5⟩ | ⟨rfl, hJx5, hk5⟩)
    · gi_wp2
      refine ⟨hkF Y hk5, hkD Y hk5, ⟨pre' ++ [{ x with at_ := V }], by simp [h1], hJ5⟩, by rw [hplen]; exact hgo, ?_, ?_⟩
      · rw [hplen, hVe.out]
        exact hk5.row hset (fun h => by have := hD5 _ h; omega) (fun o e => by have := hAb _ o e; omega)
      · exact hk5.row h51 (fun h => by have := hD5 _ h; omega) (fun o e => by have := hAb _ o e; omega)
    · gi_wp2
      exact ⟨hkF Y hk5, hkD Y hk5, rfl, _, hJx5⟩
  case done =>
    rintro D0 xs X hD hS ⟨⟨pre', h1, h2⟩, h3, h4, h5⟩ hK
    refine ⟨by simp, .inl ⟨_, _, rfl, run_takeDeferred hK, ?_⟩⟩
    refine ⟨_, results_none rfl _ _ _, ⟨_, rfl⟩, .inl ⟨pre', by rw [h1]; exact hS, ?_⟩⟩
    exact HJ.out.below h2 (below_put _ _ _ _ (by omega) (by have := (Array.getElem?_eq_some_iff.1 hK).1; omega))
  case stop =>
    rintro D0 c' pre X hD hSp ⟨rfl, pre', h2⟩ hK
    gi_wp2
    refine ⟨by simp, .inl ⟨_, _, rfl, run_takeDeferred hK, ?_⟩⟩
    refine ⟨_, results_none rfl _ _ _, ⟨_, rfl⟩, .inr ⟨pre', trivial, ?_⟩⟩
    exact HJx.out.below h2 (below_put _ _ _ _ (by omega) (by have := (Array.getElem?_eq_some_iff.1 hK).1; omega))
end Go.Proofs.YtcajhdmppfiaeaaGreat
namespace Go.Proofs.YtcajhdmppfiaeaaGreat
open Go.RowKit Go.ChangeShapes Go.WideShapes Go.ChangeAt
namespace Wr
def fr (ts : List (List UInt8)) : List UInt8 := (ts.map frame).flatten
def endOf (ts : List (List UInt8)) (k : Nat) : Nat := (fr (ts.take k)).length
theorem fr_snoc (ts : List (List UInt8)) (i : Nat) (h : i < ts.length) : fr (ts.take (i + 1)) = fr (ts.take i) ++ frame ts[i] := by
  unfold fr
  rw [List.take_succ_eq_append_getElem h, List.map_append, List.flatten_append]
  simp
theorem endOf_succ (ts : List (List UInt8)) (i : Nat) (h : i < ts.length) : endOf ts (i + 1) = endOf ts i + (frame ts[i]).length := by
  unfold endOf
  rw [fr_snoc ts i h, List.length_append]
theorem fr_drop (ts : List (List UInt8)) (i : Nat) (h : i < ts.length) : fr (ts.drop i) = frame ts[i] ++ fr (ts.drop (i + 1)) := by
  unfold fr
  rw [List.drop_eq_getElem_cons h, List.map_cons, List.flatten_cons]
end Wr
section
variable {H : Type} {enc : TypeId × Value → H} {P : Program} {w : World} {held : Bool}
end
theorem wFrames_any (A : Option Addr) (n c : Nat) (l : List UInt8) (w : World) (hn : l.length = n) (hm : n ≤ 140737488355328) (hr : Rd w A l) :
    Calls Tryz.prog 51 #[.slice A n c] w fun e w' => ∃ gf gd A1 c1, e = .returned (.func (.func 104) #[] #[.pointer (some ⟨gf, 0, none⟩)]) ∧ Row w' gf 32 #[.slice A1 n c1] ∧ Rd w' A1 l ∧ n ≤ c1 ∧ c1 ≤ maxLen ∧ (∀ ad, A1 = some ad → ad.block = gd) ∧ w.heap.size ≤ gf ∧ w.heap.size ≤ gd ∧ gd < w'.heap.size ∧ Below w.heap.size w w' := by
  have hmf : ∀ (fn : Fn) (first cap : Array Value) (w : World), (Instr.makeFunc fn first cap).run Tryz.prog w = .ok (.func fn first cap) w := fun _ _ _ _ => rfl
  have k1 := Row.new w 32 #[.slice A n c]
  have hb := (Later.refl w).alloc (.cells #[.slice A n c] 32)
  have hcl := clone_any A n c l (w.alloc (.cells #[.slice A n c] 32)) hn hm (hr.later hb)
  refine Calls.post fun Φ HΦ => ?_
  go_enter Tryz.func51, Tryz.ntmps51
  go_upto_region 1 with fail
  obtain ⟨q, hq⟩ : ∃ q, q = w.heap.size := ⟨_, rfl⟩
  rw [← hq] at k1 ⊢
  have HQ := Lib.hid hq
  clear hq
  generalize w.alloc (.cells #[.slice A n c] 32) = w1 at *
  have c1 : w1.cell? ⟨q, 0, none⟩ = some (.slice A n c) := (k1.cell 0).trans rfl
  have hq1 := k1.lt
  go_upto_region 2 with (first
    | (go_at_call 88; refine hcl.mono ?_; clear hcl; rintro e w2 ⟨v, rfl, hown, hb2⟩; obtain ⟨A2, c2', rfl, hc2, hcm2, hrd2⟩ := hown.slice; have k2 := k1.belowAll hb2; have c2 : w2.cell? ⟨q, 0, none⟩ = some (.slice A n c) := (k2.cell 0).trans rfl; have f2 : w2.frozen? ⟨q, 0, none⟩ = false := k2.frozen 0)
    | fail)
  subst hn
  have hat := hown.at_
  have hs2 := hb2.size
  have hset := k2.set 0 (.slice A2 l.length c2')
  have hb3 : Below w.heap.size w (w2.setCell ⟨q, 0, none⟩ (.slice A2 l.length c2')) := (hb.step hb2).setCell (p := ⟨q, 0, none⟩) (by have := HQ.out; show w.heap.size ≤ q; omega) _
  have hrd3 : Rd (w2.setCell ⟨q, 0, none⟩ (.slice A2 l.length c2')) A2 l := hrd2.same (Same.set w2 ⟨q, 0, none⟩ _) fun b o e _ => by have := (hat b (by rw [e]; rfl)).1; show b ≠ q; omega
  have hsz3 : (w2.setCell ⟨q, 0, none⟩ (.slice A2 l.length c2')).heap.size = w2.heap.size := by simp [World.setCell]
  clear k2 c2 f2 hrd2 hown hr
  go_wp2_with fail
  refine HΦ.out _ _ ⟨q, (match A2 with | some ad => ad.block | none => q), A2, c2', rfl, hset, hrd3, hc2, hcm2, fun ad e => by subst e; rfl, by have := HQ.out; omega, ?_, ?_, hb3⟩
  · rcases A2 with _ | ad
    · show w.heap.size ≤ q; have := HQ.out; omega
    · show w.heap.size ≤ ad.block; have := (hat ad.block rfl).1; have := hb.size; omega
  · rw [hsz3]
    rcases A2 with _ | ad
    · show q < _; omega
    · show ad.block < _; exact (hat ad.block rfl).2
end Go.Proofs.YtcajhdmppfiaeaaGreat
namespace Go.Proofs.YtcajhdmppfiaeaaGreat
open Go.RowKit
end Go.Proofs.YtcajhdmppfiaeaaGreat
namespace Go.Proofs.YtcajhdmppfiaeaaGreat
open Go.RowKit
namespace Wr
end Wr
end Go.Proofs.YtcajhdmppfiaeaaGreat
namespace Go.Proofs.YtcajhdmppfiaeaaGreat
open Go.RowKit Go.MapKept
structure LaterM (w W : World) : Prop where
  os : W.os = w.os
  tape : W.tape = w.tape
  output : W.output = w.output
  size : w.heap.size ≤ W.heap.size
  block : ∀ k, k < w.heap.size → (∀ (es : Array MapEntry) (c : Nat), w.heap[k]? ≠ some (Obj.map es c)) → W.heap[k]? = w.heap[k]?
  maps : ∀ (k : Nat) (es : Array MapEntry) (c : Nat), w.heap[k]? = some (Obj.map es c) → ∃ (es' : Array MapEntry) (c' : Nat), W.heap[k]? = some (Obj.map es' c')
theorem Later.m {w W : World} (h : Later w W) : LaterM w W := ⟨h.os, h.tape, h.output, h.size, fun k hk _ => h.block k hk, fun k es c e => ⟨es, c, (h.block k (Array.getElem?_eq_some_iff.1 e).1).trans e⟩⟩
theorem Row.laterM {w W : World} {g : Nat} {t : TypeId} {cs : Array Value} (h : Row w g t cs) (k : LaterM w W) : Row W g t cs :=
  (k.block g h.lt (fun es c e => by rw [show w.heap[g]? = some (.cells cs t (0, 0)) from h] at e; cases e)).trans h
def MapHas (W : World) (m : Nat) (φ : Int → Value → Prop) : Prop :=
  ∃ es clk, W.heap[m]? = some (.map es clk) ∧ (∀ k v, φ k v ↔ ∃ e ∈ es.toList, e.key = .int .i64 k ∧ e.val = v) ∧ ∀ e ∈ es.toList, ∃ k, e.key = .int .i64 k
theorem MapHas.later {W W' : World} {m : Nat} {φ : Int → Value → Prop} (h : MapHas W m φ) (k : Later W W') : MapHas W' m φ := by
  obtain ⟨es, clk, h1, h2, h3⟩ := h
  exact ⟨es, clk, (k.block m (Array.getElem?_eq_some_iff.1 h1).1).trans h1, h2, h3⟩
theorem MapHas.congr {W : World} {m : Nat} {φ ψ : Int → Value → Prop} (h : MapHas W m φ) (e : ∀ k v, ψ k v ↔ φ k v) : MapHas W m ψ := by
  obtain ⟨es, clk, h1, h2, h3⟩ := h
  exact ⟨es, clk, h1, fun k v => (e k v).trans (h2 k v), h3⟩
theorem MapHas.made (w : World) : MapHas (w.alloc (.map #[] 0)) w.heap.size (fun _ _ => False) := ⟨#[], 0, heap_alloc_new w _, by simp, by simp⟩
section
variable {P : Program} {Q : Exit → Act → World → Prop}
theorem MapHas.insert {W : World} {m : Nat} {φ : Int → Value → Prop} (h : MapHas W m φ) {mt kt et : TypeId} (hm : P.underlying mt = some (.map kt et)) (hk : P.underlying kt = some (.int .i64)) (k : Int) (v : Value) (hno : ∀ v, ¬ φ k v) :
    ∃ W', (Instr.mapUpdate mt (.map (some m)) (.int .i64 k) v).run P W = .ok () W' ∧ MapHas W' m (fun k' v' => φ k' v' ∨ (k' = k ∧ v' = v)) ∧ LaterM W W' ∧ (∀ j, j ≠ m → W'.heap[j]? = W.heap[j]?) ∧ W'.heap.size = W.heap.size := by
  obtain ⟨es, clk, h1, h2, h3⟩ := h
  have hkey : IsKey (.int .i64) (.int .i64 k) := by simp [IsKey]
  have hfind : Instr.findNow (.int .i64) (.int .i64 k) es.toList 0 = some none := by
    rcases findNow_spec hkey es.toList 0 (fun x hx => by obtain ⟨k', e⟩ := h3 x hx; rw [e]; simp [IsKey]) with ⟨h, _⟩ | ⟨j, e, _, hj, he⟩
    · exact h
    · exact absurd ((h2 k e.val).2 ⟨e, List.mem_of_getElem? hj, he, rfl⟩) (hno _)
  have hrun : (Instr.mapUpdate mt (.map (some m)) (.int .i64 k) v).run P W = .ok () { W with heap := W.heap.setIfInBounds m (.map (es.push { key := .int .i64 k, val := v, born := clk }) (clk + 1)) } := by
    unfold Instr.mapUpdate
    simp only [Sem.run_bind, run_underlying hm, Result.andThen_ok, MapKept.run_getObj_map h1, run_checkKey hk hkey, run_findKey hk hfind, run_setObj_map _ h1]
  have hlt : m < W.heap.size := (Array.getElem?_eq_some_iff.1 h1).1
  have hne : ∀ j, j ≠ m → (W.heap.setIfInBounds m (.map (es.push { key := .int .i64 k, val := v, born := clk }) (clk + 1)))[j]? = W.heap[j]? := fun j hj => by
    rw [Array.getElem?_setIfInBounds, if_neg (fun e => hj e.symm)]
  refine ⟨_, hrun, ⟨_, _, (heap_set h1).1, fun k' v' => ?_, fun e he => ?_⟩, ⟨rfl, rfl, rfl, by simp, fun j hj hm' => ?_, fun j es' c' e => ?_⟩, hne, by simp⟩
  · show (φ k' v' ∨ (k' = k ∧ v' = v)) ↔ _
    rw [h2 k' v']
    simp only [Array.toList_push, List.mem_append, List.mem_singleton]
    constructor
    · rintro (⟨e, he, h⟩ | ⟨rfl, rfl⟩)
      · exact ⟨e, .inl he, h⟩
      · exact ⟨_, .inr rfl, rfl, rfl⟩
    · rintro ⟨e, he | rfl, h, h'⟩
      · exact .inl ⟨e, he, h, h'⟩
      · simp at h h'
        exact .inr ⟨h.symm, h'.symm⟩
  · simp only [Array.toList_push, List.mem_append, List.mem_singleton] at he
    rcases he with he | rfl
    · exact h3 e he
    · exact ⟨k, rfl⟩
  · exact hne j (fun e => by subst e; exact hm' _ _ h1)
  · by_cases hj : j = m
    · subst hj
      exact ⟨_, _, (heap_set h1).1⟩
    · exact ⟨es', c', (hne j hj).trans e⟩
theorem MapHas.find {W : World} {m : Nat} {φ : Int → Value → Prop} (h : MapHas W m φ) {mt kt et : TypeId} (hm : P.underlying mt = some (.map kt et)) (hk : P.underlying kt = some (.int .i64)) (k : Int) :
    (∃ v, φ k v ∧ (∀ W', W'.heap[m]? = W.heap[m]? → (Instr.lookup mt (.map (some m)) (.int .i64 k) true).run P W' = .ok (.tuple #[v, .bool true]) W') ∧ ∀ W', W'.heap[m]? = W.heap[m]? → (Instr.lookup mt (.map (some m)) (.int .i64 k) false).run P W' = .ok v W') ∨
    ((∀ v, ¬ φ k v) ∧ ∀ z, (∀ W, (zeroValue et).run P W = .ok z W) → (∀ W', W'.heap[m]? = W.heap[m]? → (Instr.lookup mt (.map (some m)) (.int .i64 k) true).run P W' = .ok (.tuple #[z, .bool false]) W') ∧ ∀ W', W'.heap[m]? = W.heap[m]? → (Instr.lookup mt (.map (some m)) (.int .i64 k) false).run P W' = .ok z W') := by
  obtain ⟨es, clk, h1, h2, h3⟩ := h
  have hkey : IsKey (.int .i64) (.int .i64 k) := by simp [IsKey]
  rcases findNow_spec hkey es.toList 0 (fun x hx => by obtain ⟨k', e⟩ := h3 x hx; rw [e]; simp [IsKey]) with ⟨hf, hno⟩ | ⟨j, e, hf, hj, he⟩
  · refine .inr ⟨fun v hv => ?_, fun z hz => ⟨fun W' hW => ?_, fun W' hW => ?_⟩⟩
    · obtain ⟨e, he, hek, _⟩ := (h2 k v).1 hv
      exact hno e he hek
    · unfold Instr.lookup
      simp only [Sem.run_bind, run_underlying hm, Result.andThen_ok, MapKept.run_getObj_map (hW.trans h1), run_checkKey hk hkey, run_findKey hk hf, Sem.run_pure, hz, if_true]
    · unfold Instr.lookup
      simp only [Sem.run_bind, run_underlying hm, Result.andThen_ok, MapKept.run_getObj_map (hW.trans h1), run_checkKey hk hkey, run_findKey hk hf, Sem.run_pure, hz]
      rfl
  · refine .inl ⟨e.val, (h2 k e.val).2 ⟨e, List.mem_of_getElem? hj, he, rfl⟩, fun W' hW => ?_, fun W' hW => ?_⟩
    · unfold Instr.lookup
      simp only [Sem.run_bind, run_underlying hm, Result.andThen_ok, MapKept.run_getObj_map (hW.trans h1), run_checkKey hk hkey, run_findKey hk hf, Sem.run_pure, if_true]
    · unfold Instr.lookup
      simp only [Sem.run_bind, run_underlying hm, Result.andThen_ok, MapKept.run_getObj_map (hW.trans h1), run_checkKey hk hkey, run_findKey hk hf, Sem.run_pure]
      rfl
structure PrM where
  R : Value → World → Prop
  st : ∀ v W W', R v W → LaterM W W' → R v W'
def PrM.eq (c : Value) : PrM := ⟨fun v _ => v = c, fun _ _ _ h _ => h⟩
def PrM.any : PrM := ⟨fun _ _ => True, fun _ _ _ _ _ => trivial⟩
def VofM (Vs : List PrM) (j : Nat) (v : Value) (W : World) : Prop := match Vs[j]? with
  | some p => p.R v W
  | none => True
theorem VofM.st (Vs : List PrM) : ∀ j v W W', VofM Vs j v W → LaterM W W' → VofM Vs j v W' := fun j v W W' h hL => by
  unfold VofM at *
  cases hj : Vs[j]? with
  | none => trivial
  | some p => rw [hj] at h; exact p.st v W W' h hL
def StepM (P : Program) (ops : Array Oper) (Q : Exit → Act → World → Prop) (a0 : Act) (w : World) (mt : TypeId) (V : Nat → Value → World → Prop) (ins : Nat → Option (Int × Nat)) (cp : Nat) (i : Nat) (o : Oper) : Prop :=
  match ins i with
  | some (k, j) => o.guard = none ∧ waits ops i 0 = true ∧ waits ops i j = true ∧ ∃ tm s, dstOf ops 0 = some tm ∧ dstOf ops j = some s ∧ o.op = .insert mt (.tmp tm) (.const (.int .i64 k)) (.tmp s)
  | none => if i = 0 then o.guard = none ∧ o.op = .makeMap mt none else if i = cp then o.guard = none ∧ waits ops i 0 = true ∧ ∃ tm, dstOf ops 0 = some tm ∧ o.op = .move (.tmp tm) else ∀ a W, Below w.heap.size w W → Env ops a0 V i a W → StepOk P ops Q o a W (V i)
theorem stepM_ins {ops : Array Oper} {a0 : Act} {w : World} {mt : TypeId} {V : Nat → Value → World → Prop} {ins : Nat → Option (Int × Nat)} {cp i : Nat} {o : Oper} {k : Int} {j : Nat} {tm s : Tmp} (h : ins i = some (k, j)) (hg : o.guard = none) (hw0 : waits ops i 0 = true) (hwj : waits ops i j = true) (hd0 : dstOf ops 0 = some tm) (hdj : dstOf ops j = some s) (hop : o.op = .insert mt (.tmp tm) (.const (.int .i64 k)) (.tmp s)) : StepM P ops Q a0 w mt V ins cp i o := by
  unfold StepM
  rw [h]
  exact ⟨hg, hw0, hwj, tm, s, hd0, hdj, hop⟩
theorem stepM_make {ops : Array Oper} {a0 : Act} {w : World} {mt : TypeId} {V : Nat → Value → World → Prop} {ins : Nat → Option (Int × Nat)} {cp : Nat} {o : Oper} (h : ins 0 = none) (hg : o.guard = none) (hop : o.op = .makeMap mt none) : StepM P ops Q a0 w mt V ins cp 0 o := by
  unfold StepM
  rw [h]
  exact (if_pos rfl : _ = _) ▸ ⟨hg, hop⟩
theorem stepM_copy {ops : Array Oper} {a0 : Act} {w : World} {mt : TypeId} {V : Nat → Value → World → Prop} {ins : Nat → Option (Int × Nat)} {cp : Nat} {o : Oper} {tm : Tmp} (h : ins cp = none) (h0 : cp ≠ 0) (hg : o.guard = none) (hw0 : waits ops cp 0 = true) (hd0 : dstOf ops 0 = some tm) (hop : o.op = .move (.tmp tm)) : StepM P ops Q a0 w mt V ins cp cp o := by
  unfold StepM
  rw [h]
  simp only [if_neg h0, if_true]
  exact ⟨hg, hw0, tm, hd0, hop⟩
theorem stepM_plain {ops : Array Oper} {a0 : Act} {w : World} {mt : TypeId} {V : Nat → Value → World → Prop} {ins : Nat → Option (Int × Nat)} {cp i : Nat} {o : Oper} (h : ins i = none) (h0 : i ≠ 0) (hc : i ≠ cp) (hs : ∀ a W, Below w.heap.size w W → Env ops a0 V i a W → StepOk P ops Q o a W (V i)) : StepM P ops Q a0 w mt V ins cp i o := by
  unfold StepM
  rw [h]
  simp only [if_neg h0, if_neg hc]
  exact hs
def InsPhi (ins : Nat → Option (Int × Nat)) (f : Nat → Bool) (xs : Nat → Value) (k : Int) (v : Value) : Prop := ∃ i j, ins i = some (k, j) ∧ f i = true ∧ v = xs j
theorem wpIn_region_map {F : Fence} (hF : Wide F) {n : Nat} {id : Nat} {o : Oper} {os : List Oper} {a0 : Act} {w : World} {mt kt et : TypeId} (hmt : P.underlying mt = some (.map kt et)) (hkt : P.underlying kt = some (.int .i64))
    (V : Nat → Value → World → Prop) (hV : ∀ j v W W', V j v W → LaterM W W' → V j v W') (ins : Nat → Option (Int × Nat)) (hins : ∀ i k j, ins i = some (k, j) → ∀ i' j', ins i' = some (k, j') → i' = i) (hins0 : ins 0 = none) (hinV : ∀ i k j, ins i = some (k, j) → ∀ v W, V i v W) (hV0 : ∀ v W, V 0 v W) (cp : Nat) (hcp : cp ≠ 0) (hcpn : ins cp = none) (hVc : ∀ v W, V cp v W)
    (hm : P.follows .mixedOrders = true) (hp : plainAll (o :: os).toArray = true) (hd : dstsB (o :: os).toArray = true) (hb : backB (o :: os).toArray = true) (ha : ancB (o :: os).toArray = true) (hin : dstIn (o :: os).toArray a0.tmps.size = true) (hg : (lastL o os).guard = none)
    (step : AllFrom (StepM P (o :: os).toArray Q a0 w mt V ins cp) 0 (initL o os))
    (fin : ∀ xs W m, Below w.heap.size w W → w.heap.size ≤ m → xs 0 = .map (some m) → xs cp = .map (some m) → MapHas W m (InsPhi ins (fun j => decide (j < (initL o os).length)) xs) → (∀ j, j < (initL o os).length → V j (xs j) W) → (∀ y, keepsB (o :: os).toArray (initL o os).length y = true → (putL (initL o os) 0 xs a0).eval y = a0.eval y) → (∀ j t, j < (initL o os).length → dstOf (o :: os).toArray j = some t → (putL (initL o os) 0 xs a0).eval (.tmp t) = xs j) →
      LastOk P (lastL o os) (putL (initL o os) 0 xs a0) W Q) (h0 : 0 < (initL o os).length) (hlen : ∀ i k j, ins i = some (k, j) → i < (initL o os).length) (hcl'' : cp < (initL o os).length) : (Code.region id (o :: os).toArray true).wpIn F n P Q a0 w := by
  refine wpIn_region_lastY hF (fun f xs W => Below w.heap.size w W ∧ (∀ j, f j = true → V j (xs j) W) ∧ (∀ i k j, ins i = some (k, j) → f i = true → f j = true ∧ f 0 = true) ∧ (f 0 = true → ∃ m, w.heap.size ≤ m ∧ xs 0 = .map (some m) ∧ MapHas W m (InsPhi ins f xs)) ∧ (f cp = true → f 0 = true ∧ xs cp = xs 0))
    ⟨(Below.refl _ w).drew, fun j h => by simp at h, fun i k j _ h => by simp at h, fun h => by simp at h, fun h => by simp at h⟩ hm hp hd hb ha hin hg ?_ ?_
  · have key : ∀ (l : List Oper) (i : Nat), AllFrom (StepM P (o :: os).toArray Q a0 w mt V ins cp) i l → AllFrom (fun i o' => ∀ a W f xs, (Below w.heap.size w W ∧ (∀ j, f j = true → V j (xs j) W) ∧ (∀ i k j, ins i = some (k, j) → f i = true → f j = true ∧ f 0 = true) ∧ (f 0 = true → ∃ m, w.heap.size ≤ m ∧ xs 0 = .map (some m) ∧ MapHas W m (InsPhi ins f xs)) ∧ (f cp = true → f 0 = true ∧ xs cp = xs 0)) → EnvY (o :: os).toArray a0 f i a xs →
        StepOkY P (o :: os).toArray Q o' a W (fun v W' => Below w.heap.size w W' ∧ (∀ j, updB f i j = true → V j (upd xs i v j) W') ∧ (∀ i' k j, ins i' = some (k, j) → updB f i i' = true → updB f i j = true ∧ updB f i 0 = true) ∧ (updB f i 0 = true → ∃ m, w.heap.size ≤ m ∧ upd xs i v 0 = .map (some m) ∧ MapHas W' m (InsPhi ins (updB f i) (upd xs i v))) ∧ (updB f i cp = true → updB f i 0 = true ∧ upd xs i v cp = upd xs i v 0))) i l := by
      intro l
      induction l with
      | nil => intro i h; exact h
      | cons o' l ih =>
        intro i h
        obtain ⟨h1, h2⟩ := h
        refine ⟨fun a W f xs hI he => ?_, ih _ h2⟩
        obtain ⟨hB, hVx, hcl, hM, hC⟩ := hI
        have hti : f i = false := he.todo
        have hupf : ∀ j, j ≠ i → updB f i j = f j := fun j hj => by simp [updB, hj]
        have hupi : updB f i i = true := by simp [updB]
        have hC' : i ≠ 0 → i ≠ cp → ∀ v, updB f i cp = true → updB f i 0 = true ∧ upd xs i v cp = upd xs i v 0 := fun hi0 hic v h => by
          rw [hupf cp (fun e => hic e.symm)] at h
          obtain ⟨h1, h2⟩ := hC h
          exact ⟨by rw [hupf 0 (fun e => hi0 e.symm)]; exact h1, by rw [upd_ne xs _ (fun e => hic e.symm), upd_ne xs _ (fun e => hi0 e.symm)]; exact h2⟩
        unfold StepM at h1
        cases hk : ins i with
        | some p =>
          obtain ⟨k, j⟩ := p
          rw [hk] at h1
          obtain ⟨hgu, hw0, hwj, tm, s, hd0, hdj, hop⟩ := h1
          have hf0 : f 0 = true := he.done 0 hw0
          have hfj : f j = true := he.done j hwj
          obtain ⟨m, hm1, hm2, hm3⟩ := hM hf0
          have hji : j ≠ i := fun e => by subst e; rw [hti] at hfj; cases hfj
          have h0i : (0 : Nat) ≠ i := fun e => by rw [← e, hf0] at hti; cases hti
          have e1 : a.eval (.tmp tm) = .map (some m) := (he.val 0 tm hw0 hd0).trans hm2
          have e2 : a.eval (.tmp s) = xs j := he.val j s hwj hdj
          have e3 : a.eval (.const (.int .i64 k)) = .int .i64 k := rfl
          have hno : ∀ v, ¬ InsPhi ins f xs k v := fun v ⟨i', j', hi', hfi', _⟩ => by
            have := hins i k j hk i' j' hi'
            subst this
            rw [hti] at hfi'; cases hfi'
          obtain ⟨W', hrun, hMW, hLM, hfar, hsz⟩ := hm3.insert hmt hkt k (xs j) hno
          refine stepOkY_want hgu ?_
          unfold Oper.wp execOp
          simp only [hop, e1, e2, e3]
          simp only [Sem.run_bind, hrun, Result.andThen_ok, Sem.run_pure]
          refine ⟨undef, rfl, ⟨?_, ?_, ?_, ?_, ?_⟩⟩
          · exact hB.trans ⟨hLM.os, hLM.tape, hLM.output, hLM.size, fun q hq => hfar q (by omega)⟩
          · intro q hq
            by_cases e : q = i
            · subst e
              exact hinV q k j hk _ _
            · rw [upd_ne xs _ e]
              exact hV q _ _ _ (hVx q (by rwa [hupf q e] at hq)) hLM
          · intro i' k' j' hi' hf'
            by_cases e : i' = i
            · subst e
              rw [hk] at hi'
              injection hi' with hi'
              injection hi' with e1 e2
              subst e1 e2
              exact ⟨by rw [hupf _ hji]; exact hfj, by rw [hupf _ h0i]; exact hf0⟩
            · rw [hupf i' e] at hf'
              have := hcl i' k' j' hi' hf'
              exact ⟨by unfold updB; split <;> simp [this.1], by unfold updB; split <;> simp [this.2]⟩
          · intro _
            refine ⟨m, hm1, by rw [upd_ne xs _ h0i]; exact hm2, hMW.congr fun k' v' => ?_⟩
            constructor
            · rintro ⟨i', j', hi', hf', rfl⟩
              by_cases e : i' = i
              · subst e
                rw [hk] at hi'
                injection hi' with hi'
                injection hi' with e1 e2
                subst e1 e2
                exact .inr ⟨rfl, by rw [upd_ne xs _ hji]⟩
              · rw [hupf i' e] at hf'
                have hj' := (hcl i' k' j' hi' hf').1
                exact .inl ⟨i', j', hi', hf', by rw [upd_ne xs _ (fun e => by rw [e, hti] at hj'; cases hj')]⟩
            · rintro (⟨i', j', hi', hf', rfl⟩ | ⟨rfl, rfl⟩)
              · have e : i' ≠ i := fun e => by rw [e, hti] at hf'; cases hf'
                have hj' := (hcl i' k' j' hi' hf').1
                exact ⟨i', j', hi', by rw [hupf i' e]; exact hf', by rw [upd_ne xs _ (fun e => by rw [e, hti] at hj'; cases hj')]⟩
              · exact ⟨i, j, hk, hupi, by rw [upd_ne xs _ hji]⟩
          · by_cases hic : i = cp
            · intro _
              exfalso
              rw [hic, hcpn] at hk
              cases hk
            · exact hC' (fun e => h0i e.symm) hic _
        | none =>
          rw [hk] at h1
          have hphi : ∀ v, i ≠ 0 → ∀ k' v', InsPhi ins (updB f i) (upd xs i v) k' v' ↔ InsPhi ins f xs k' v' := fun v hi0 k' v' => by
            constructor
            · rintro ⟨i', j', hi', hf', rfl⟩
              have e : i' ≠ i := fun e => by rw [e, hk] at hi'; cases hi'
              rw [hupf i' e] at hf'
              have hj' := (hcl i' k' j' hi' hf').1
              exact ⟨i', j', hi', hf', by rw [upd_ne xs _ (fun e => by rw [e, hti] at hj'; cases hj')]⟩
            · rintro ⟨i', j', hi', hf', rfl⟩
              have e : i' ≠ i := fun e => by rw [e, hk] at hi'; cases hi'
              have hj' := (hcl i' k' j' hi' hf').1
              exact ⟨i', j', hi', by rw [hupf i' e]; exact hf', by rw [upd_ne xs _ (fun e => by rw [e, hti] at hj'; cases hj')]⟩
          have hcl' : ∀ i' k j, ins i' = some (k, j) → updB f i i' = true → updB f i j = true ∧ updB f i 0 = true := fun i' k' j' hi' hf' => by
            have e : i' ≠ i := fun e => by rw [e, hk] at hi'; cases hi'
            rw [hupf i' e] at hf'
            have := hcl i' k' j' hi' hf'
            exact ⟨by unfold updB; split <;> simp [this.1], by unfold updB; split <;> simp [this.2]⟩
          by_cases hi0 : i = 0
          · subst hi0
            rw [if_pos rfl] at h1
            obtain ⟨hgu, hop⟩ := h1
            refine stepOkY_want hgu ?_
            unfold Oper.wp execOp
            simp only [hop, Option.map_none]
            simp only [Sem.run_bind, run_makeMap, Result.andThen_ok, Sem.run_pure]
            have hL : Later W (W.alloc (.map #[] 0)) := (Later.refl W).alloc _
            refine ⟨_, rfl, ⟨hB.trans (hL.below.mono hB.size), ?_, hcl', ?_, ?_⟩⟩
            · intro q hq
              by_cases e : q = 0
              · subst e
                exact hV0 _ _
              · rw [upd_ne xs _ e]
                exact hV q _ _ _ (hVx q (by rwa [hupf q e] at hq)) hL.m
            · intro _
              refine ⟨W.heap.size, hB.size, upd_self _ _ _, (MapHas.made W).congr fun k' v' => ?_⟩
              constructor
              · rintro ⟨i', j', hi', hf', rfl⟩
                have e : i' ≠ 0 := fun e => by rw [e, hk] at hi'; cases hi'
                rw [hupf i' e] at hf'
                have := (hcl i' k' j' hi' hf').2
                rw [hti] at this
                cases this
              · intro h; exact h.elim
            · intro h
              rw [hupf cp hcp] at h
              have := (hC h).1
              rw [hti] at this
              cases this
          · rw [if_neg hi0] at h1
            by_cases hic : i = cp
            · subst hic
              rw [if_pos rfl] at h1
              obtain ⟨hgu, hw0, tm, hd0, hop⟩ := h1
              have hf0 := he.done 0 hw0
              refine stepOkY_want hgu ?_
              unfold Oper.wp execOp
              simp only [hop, Sem.run_pure]
              refine ⟨_, rfl, ⟨hB, ?_, hcl', ?_, ?_⟩⟩
              · intro q hq
                by_cases e : q = i
                · subst e
                  exact hVc _ _
                · rw [upd_ne xs _ e]
                  exact hVx q (by rwa [hupf q e] at hq)
              · intro _
                obtain ⟨m, hm1, hm2, hm3⟩ := hM hf0
                exact ⟨m, hm1, by rw [upd_ne xs _ (fun e => hi0 e.symm)]; exact hm2, hm3.congr (hphi _ hi0)⟩
              · intro _
                exact ⟨by rw [hupf 0 (fun e => hi0 e.symm)]; exact hf0, by rw [upd_self, upd_ne xs _ (fun e => hi0 e.symm)]; exact he.val 0 tm hw0 hd0⟩
            rw [if_neg hic] at h1
            have h4 := h1 a W hB ⟨he.keep, fun j t hw ht => by rw [he.val j t hw ht]; exact hVx j (he.done j hw)⟩
            have hR : ∀ v W', Later W W' → V i v W' → Below w.heap.size w W' ∧ (∀ j, updB f i j = true → V j (upd xs i v j) W') ∧ (∀ i' k j, ins i' = some (k, j) → updB f i i' = true → updB f i j = true ∧ updB f i 0 = true) ∧ (updB f i 0 = true → ∃ m, w.heap.size ≤ m ∧ upd xs i v 0 = .map (some m) ∧ MapHas W' m (InsPhi ins (updB f i) (upd xs i v))) ∧ (updB f i cp = true → updB f i 0 = true ∧ upd xs i v cp = upd xs i v 0) := fun v W' hL hv => by
              refine ⟨hB.trans (hL.below.mono hB.size), fun q hq => ?_, hcl', fun h => ?_, hC' hi0 hic v⟩
              · by_cases e : q = i
                · subst e; rw [upd_self]; exact hv
                · rw [upd_ne xs _ e]
                  exact hV q _ _ _ (hVx q (by rwa [hupf q e] at hq)) hL.m
              · rw [hupf 0 (fun e => hi0 e.symm)] at h
                obtain ⟨m, hm1, hm2, hm3⟩ := hM h
                exact ⟨m, hm1, by rw [upd_ne xs _ (fun e => hi0 e.symm)]; exact hm2, (hm3.later hL).congr (hphi v hi0)⟩
            unfold StepOk at h4
            unfold StepOkY
            split
            · rename_i hw
              rw [if_pos hw] at h4
              exact Oper.wp_mono (fun a' W' ⟨v, e, hL, hv⟩ => ⟨v, e, hR v W' hL hv⟩) h4
            · rename_i hw
              rw [if_neg hw] at h4
              exact hR _ _ (Later.refl W) h4
    exact key _ _ step
  · intro f xs W hI hall _ hk hget
    obtain ⟨hB, hVx, hcl, hM, hC⟩ := hI
    obtain ⟨m, hm1, hm2, hm3⟩ := hM (hall 0 h0)
    refine fin xs W m hB hm1 hm2 ((hC (hall cp hcl'')).2.trans hm2) (hm3.congr fun k v => ?_) (fun j hj => hVx j (hall j hj)) hk hget
    constructor
    · rintro ⟨i, j, hi, hf, rfl⟩
      exact ⟨i, j, hi, hall i (hlen i k j hi), rfl⟩
    · rintro ⟨i, j, hi, hf, rfl⟩
      exact ⟨i, j, hi, decide_eq_true (hlen i k j hi), rfl⟩
end
end Go.Proofs.YtcajhdmppfiaeaaGreat
namespace Go.Proofs.YtcajhdmppfiaeaaGreat
open Go.RowKit
structure Ms.Said where
  kind : Int
  fund : List UInt8
  tix : Int
  cap : Int
  dust : Int
  fee : Int
  delay : Int
  key0 : List UInt8
  key1 : List UInt8
  reserve : Int
  amount : Int
  point : List UInt8
  next : List UInt8
  key : List UInt8
  hash : List UInt8
  tag : List UInt8
  secret : List UInt8
  id : Int
  number : Int
  index : Int
  expiry : Int
  code : Int
  route : List UInt8
deriving DecidableEq
namespace Ms
abbrev z32 : List UInt8 := Sha.zeros 32
def blank (k : Int) : Said := ⟨k, z32, 0, 0, 0, 0, 0, z32, z32, 0, 0, z32, z32, z32, z32, z32, z32, 0, 0, 0, 0, 0, []⟩
def Said.n (s : Said) : Nat → Int
  | 0 => s.tix | 1 => s.cap | 2 => s.dust | 3 => s.fee | 4 => s.delay | 5 => s.reserve | 6 => s.amount | 7 => s.id | 8 => s.number | 9 => s.index | 10 => s.expiry | 11 => s.code | _ => 0
def Said.setN (s : Said) (j : Nat) (v : Int) : Said := match j with
  | 0 => { s with tix := v } | 1 => { s with cap := v } | 2 => { s with dust := v } | 3 => { s with fee := v } | 4 => { s with delay := v } | 5 => { s with reserve := v } | 6 => { s with amount := v } | 7 => { s with id := v } | 8 => { s with number := v } | 9 => { s with index := v } | 10 => { s with expiry := v } | 11 => { s with code := v } | _ => s
def Said.h (s : Said) : Nat → List UInt8
  | 0 => s.fund | 1 => s.key0 | 2 => s.key1 | 3 => s.point | 4 => s.next | 5 => s.key | 6 => s.hash | 7 => s.tag | 8 => s.secret | _ => []
def Said.setH (s : Said) (j : Nat) (v : List UInt8) : Said := match j with
  | 0 => { s with fund := v } | 1 => { s with key0 := v } | 2 => { s with key1 := v } | 3 => { s with point := v } | 4 => { s with next := v } | 5 => { s with key := v } | 6 => { s with hash := v } | 7 => { s with tag := v } | 8 => { s with secret := v } | _ => s
def Said.setR (s : Said) (v : List UInt8) : Said := { s with route := v }
def Said.wf (s : Said) : Prop := ∀ j, j < 9 → (s.h j).length = 32
theorem z32_len : z32.length = 32 := by simp [z32, Sha.zeros]
theorem blank_wf (k : Int) : (blank k).wf := fun j hj => by
  rcases j with _ | _ | _ | _ | _ | _ | _ | _ | _ | j
  all_goals first | exact z32_len | omega
theorem Said.setN_wf {s : Said} (h : s.wf) (j : Nat) (v : Int) : (s.setN j v).wf := fun i hi => by
  have := h i hi
  rcases j with _ | _ | _ | _ | _ | _ | _ | _ | _ | _ | _ | _ | j
  all_goals exact this
theorem Said.setR_wf {s : Said} (h : s.wf) (v : List UInt8) : (s.setR v).wf := fun i hi => h i hi
theorem Said.setH_wf {s : Said} (h : s.wf) (j : Nat) (v : List UInt8) (hv : v.length = 32) : (s.setH j v).wf := fun i hi => by
  have := h i hi
  rcases j with _ | _ | _ | _ | _ | _ | _ | _ | _ | j
  all_goals rcases i with _ | _ | _ | _ | _ | _ | _ | _ | _ | i
  all_goals first | exact this | exact hv | omega
inductive Fld where
  | num (j : Nat) (most : Int)
  | hash (j : Nat)
  | route
deriving DecidableEq
abbrev A : Int := 1125899906842624
abbrev M : Int := 2147483647
def flds (k : Int) : List Fld :=
  if k = 1 then [.num 1 A, .num 2 M, .num 3 M, .num 4 M, .hash 1, .num 5 A, .num 6 A, .hash 3, .hash 4]
  else if k = 2 then [.hash 5, .hash 3, .hash 4]
  else if k = 3 then [.hash 6, .num 9 M, .hash 7]
  else if k = 4 then [.hash 7]
  else if k = 6 then [.num 7 M, .num 6 A, .hash 6, .num 10 M, .route]
  else if k = 7 then [.num 7 M, .hash 8]
  else if k = 8 then [.num 7 M, .num 11 M]
  else if k = 9 then [.num 8 M, .hash 7]
  else if k = 10 then [.num 8 M, .hash 8, .hash 4]
  else if k = 11 then [.num 8 M, .num 7 M]
  else if k = 13 then [.num 6 A, .hash 7]
  else if k = 14 then [.num 11 M]
  else []
def zero1 (s : Said) : Fld → Said
  | .num j _ => s.setN j 0
  | .hash j => s.setH j z32
  | .route => s.setR []
def zeroed (l : List Fld) (s : Said) : Said := l.foldl zero1 s
def isKind (k : Int) : Bool := decide (1 ≤ k) && decide (k ≤ 14)
def within (n : Int) : Bool := decide (0 ≤ n) && decide (n ≤ 2147483647)
def amt (n : Int) : Bool := decide (0 ≤ n) && decide (n ≤ 1125899906842624)
def termsB (s : Said) : Bool := decide (0 ≤ s.tix) && decide (s.tix ≤ 23) && decide (1000 ≤ s.cap) && decide (s.cap ≤ 1125899906842624) && decide (1 ≤ s.dust) && decide (s.dust ≤ 500) && decide (0 ≤ s.fee) && decide (s.fee ≤ 400) && decide (1 ≤ s.delay) && decide (s.delay ≤ 1000)
def special (s : Said) : Bool :=
  if s.kind = 1 then termsB s && (decide (0 ≤ s.reserve) && decide (s.reserve ≤ s.cap / 10)) && decide (s.amount ≤ s.cap - s.fee - s.reserve)
  else if s.kind = 3 then decide (s.index < 24)
  else if s.kind = 6 then decide (0 < s.amount) && decide (0 < s.expiry) && decide (s.route.length ≤ 512)
  else if s.kind = 8 ∨ s.kind = 14 then decide (1 ≤ s.code) && decide (s.code ≤ 999)
  else true
def right (s : Said) : Bool := isKind s.kind && decide (zeroed (flds s.kind) s = blank s.kind) && (within s.id && within s.number && within s.index && within s.expiry) && amt s.amount && special s
def lay (s : Said) : Fld → List UInt8
  | .num j _ => Wr.bytes (s.n j).toNat
  | .hash j => s.h j
  | .route => Wr.bytes s.route.length ++ s.route
def laid (l : List Fld) (s : Said) : List UInt8 := (l.map (lay s)).flatten
def body (s : Said) : List UInt8 := Wr.bytes s.kind.toNat ++ laid (flds s.kind) s
structure RdS where
  l : List UInt8
  bad : Bool
  s : Said
def pad32 (l : List UInt8) : List UInt8 := if l.length = 32 then l else z32
def take1 (r : RdS) : Fld → RdS
  | .num j m => ⟨(Wr.numR r.l r.bad m).1.1, (Wr.numR r.l r.bad m).1.2, r.s.setN j (Wr.numR r.l r.bad m).2.1⟩
  | .hash j => ⟨(Wr.hashR r.l r.bad).1.1, (Wr.hashR r.l r.bad).1.2, r.s.setH j (pad32 (Wr.hashR r.l r.bad).2.1)⟩
  | .route => ⟨(Wr.textR r.l r.bad 512).1.1, (Wr.textR r.l r.bad 512).1.2, r.s.setR (Wr.textR r.l r.bad 512).2.1⟩
def start (b : List UInt8) : RdS := ⟨(Wr.numR b false 14).1.1, (Wr.numR b false 14).1.2, blank (Wr.numR b false 14).2.1⟩
def taken (l : List Fld) (r : RdS) : RdS := l.foldl take1 r
def final (b : List UInt8) : RdS := taken (flds (start b).s.kind) (start b)
def okB (b : List UInt8) : Bool := !(final b).bad && (final b).l.isEmpty && right (final b).s
def parse (b : List UInt8) : Said := if okB b then (final b).s else blank 0
def parseE (b : List UInt8) : Int := if okB b then 0 else 210
def bodyR (s : Said) : List UInt8 := if right s then body s else []
def bodyE (s : Said) : Int := if right s then 0 else 2
end Ms
end Go.Proofs.YtcajhdmppfiaeaaGreat
namespace Go.Proofs.YtcajhdmppfiaeaaGreat
open Go.RowKit
namespace Ms
inductive Seg where
  | kind
  | num (j : Nat)
  | hash (j : Nat)
  | route
deriving DecidableEq
def segC (s : Said) : Seg → List Value
  | .kind => [.int .i64 s.kind]
  | .num j => [.int .i64 (s.n j)]
  | .hash j => (hC (s.h j)).toList
  | .route => [.string ⟨s.route.toArray⟩]
def segLen : Seg → Nat
  | .hash _ => 32
  | _ => 1
def segs : List Seg := [.kind, .hash 0, .num 0, .num 1, .num 2, .num 3, .num 4, .hash 1, .hash 2, .num 5, .num 6, .hash 3, .hash 4, .hash 5, .hash 6, .hash 7, .hash 8, .num 7, .num 8, .num 9, .num 10, .num 11, .route]
def flat (s : Said) (l : List Seg) : List Value := (l.map (segC s)).flatten
def offs : List Seg → Seg → Nat
  | [], _ => 0
  | x :: l, g => if x = g then 0 else segLen x + offs l g
theorem hash_lt : ∀ g ∈ segs, ∀ j, g = .hash j → j < 9 := by
  intro g hg j e
  subst e
  simp [segs] at hg
  omega
theorem seg_len {s : Said} (h : s.wf) (g : Seg) (hg : ∀ j, g = .hash j → j < 9) : (segC s g).length = segLen g := by
  cases g
  case hash j => simp only [segC, segLen, Array.length_toList]; exact hC_size _ (Nat.le_of_eq (h j (hg j rfl)))
  all_goals rfl
theorem flat_len {s : Said} (h : s.wf) : ∀ l : List Seg, (∀ g ∈ l, ∀ j, g = .hash j → j < 9) → (flat s l).length = (l.map segLen).sum
  | [], _ => rfl
  | g :: l, hl => by
    have ih := flat_len h l (fun g hg => hl g (List.mem_cons_of_mem _ hg))
    unfold flat at *
    rw [List.map_cons, List.flatten_cons, List.length_append, seg_len h g (hl g List.mem_cons_self), ih, List.map_cons, List.sum_cons]
theorem flat_split {s : Said} (h : s.wf) (g : Seg) : ∀ l : List Seg, g ∈ l → (∀ g ∈ l, ∀ j, g = .hash j → j < 9) → ∃ pre post, l = pre ++ g :: post ∧ g ∉ pre ∧ (flat s pre).length = offs l g
  | [], hg, _ => by cases hg
  | x :: l, hg, hl => by
    by_cases e : x = g
    · subst e
      exact ⟨[], l, rfl, by simp, by simp [flat, offs]⟩
    · obtain ⟨pre, post, h1, h2, h3⟩ := flat_split h g l (by
        rcases List.mem_cons.1 hg with h | h
        · exact absurd h.symm e
        · exact h) (fun g hg => hl g (List.mem_cons_of_mem _ hg))
      refine ⟨x :: pre, post, by rw [h1]; rfl, ?_, ?_⟩
      · intro hm
        rcases List.mem_cons.1 hm with h | h
        · exact e h.symm
        · exact h2 h
      · unfold flat at *
        rw [List.map_cons, List.flatten_cons, List.length_append, seg_len h x (hl x List.mem_cons_self), h3]
        simp [offs, e]
theorem flat_congr {s s' : Said} : ∀ l : List Seg, (∀ g ∈ l, segC s' g = segC s g) → flat s' l = flat s l
  | [], _ => rfl
  | g :: l, h => by
    have ih := flat_congr l (fun g hg => h g (List.mem_cons_of_mem _ hg))
    unfold flat at *
    rw [List.map_cons, List.flatten_cons, List.map_cons, List.flatten_cons, ih, h g List.mem_cons_self]
def saidC (s : Said) : Array Value := (flat s segs).toArray
theorem saidC_size {s : Said} (h : s.wf) : (saidC s).size = 302 := by
  unfold saidC
  rw [List.size_toArray, flat_len h segs hash_lt]
  rfl
theorem segs_nodup : segs.Nodup := by decide
theorem said_seg {s : Said} (h : s.wf) (g : Seg) (hg : g ∈ segs) (i : Nat) (hi : i < segLen g) : (saidC s)[offs segs g + i]? = (segC s g)[i]? := by
  obtain ⟨pre, post, h1, h2, h3⟩ := flat_split h g segs hg hash_lt
  have hl := seg_len h g (hash_lt g hg)
  rw [← h3]
  unfold saidC
  rw [List.getElem?_toArray, h1]
  unfold flat
  rw [List.map_append, List.flatten_append, List.map_cons, List.flatten_cons, List.getElem?_append_right (Nat.le_add_right _ _), Nat.add_sub_cancel_left, List.getElem?_append_left (by omega)]
theorem said_put {s s' : Said} (h : s.wf) (h' : s'.wf) (g : Seg) (hg : g ∈ segs) (ho : ∀ g' ∈ segs, g' ≠ g → segC s' g' = segC s g') : setFrom (saidC s) (offs segs g) (segC s' g) = saidC s' := by
  obtain ⟨pre, post, h1, h2, h3⟩ := flat_split h g segs hg hash_lt
  have hl := seg_len h g (hash_lt g hg)
  have hl' := seg_len h' g (hash_lt g hg)
  have hnp : g ∉ post := by
    have := segs_nodup
    rw [h1, List.nodup_append] at this
    exact (List.nodup_cons.1 this.2.1).1
  have e1 : flat s' pre = flat s pre := flat_congr pre fun x hx => ho x (by rw [h1]; exact List.mem_append_left _ hx) (fun e => h2 (e ▸ hx))
  have e2 : flat s' post = flat s post := flat_congr post fun x hx => ho x (by rw [h1]; exact List.mem_append_right _ (List.mem_cons_of_mem _ hx)) (fun e => hnp (e ▸ hx))
  have e3 : ∀ s : Said, flat s segs = flat s pre ++ (segC s g ++ flat s post) := fun s => by
    rw [h1]
    unfold flat
    rw [List.map_append, List.flatten_append, List.map_cons, List.flatten_cons]
  unfold saidC
  rw [e3 s, e3 s', e1, e2]
  exact setFrom_mid _ _ _ _ _ h3 (by rw [hl, hl'])
theorem set1 (cs : Array Value) (o : Nat) (v : Value) : setFrom cs o [v] = cs.setIfInBounds o v := rfl
theorem segN (s : Said) (j : Nat) (v : Int) (hj : j < 12) : segC (s.setN j v) (.num j) = [.int .i64 v] := by
  rcases j with _ | _ | _ | _ | _ | _ | _ | _ | _ | _ | _ | _ | j
  all_goals first | rfl | omega
theorem segN_o (s : Said) (j : Nat) (v : Int) (hj : j < 12) : ∀ g' ∈ segs, g' ≠ .num j → segC (s.setN j v) g' = segC s g' := by
  intro g' hg hne
  rcases j with _ | _ | _ | _ | _ | _ | _ | _ | _ | _ | _ | _ | j
  all_goals first | omega | skip
  all_goals
    simp only [segs, List.mem_cons, List.not_mem_nil, or_false] at hg
    rcases hg with rfl | rfl | rfl | rfl | rfl | rfl | rfl | rfl | rfl | rfl | rfl | rfl | rfl | rfl | rfl | rfl | rfl | rfl | rfl | rfl | rfl | rfl | rfl
    all_goals first | rfl | exact absurd rfl hne
theorem segH (s : Said) (j : Nat) (v : List UInt8) (hj : j < 9) : segC (s.setH j v) (.hash j) = (hC v).toList := by
  rcases j with _ | _ | _ | _ | _ | _ | _ | _ | _ | j
  all_goals first | rfl | omega
theorem segH_o (s : Said) (j : Nat) (v : List UInt8) (hj : j < 9) : ∀ g' ∈ segs, g' ≠ .hash j → segC (s.setH j v) g' = segC s g' := by
  intro g' hg hne
  rcases j with _ | _ | _ | _ | _ | _ | _ | _ | _ | j
  all_goals first | omega | skip
  all_goals
    simp only [segs, List.mem_cons, List.not_mem_nil, or_false] at hg
    rcases hg with rfl | rfl | rfl | rfl | rfl | rfl | rfl | rfl | rfl | rfl | rfl | rfl | rfl | rfl | rfl | rfl | rfl | rfl | rfl | rfl | rfl | rfl | rfl
    all_goals first | rfl | exact absurd rfl hne
theorem segR_o (s : Said) (v : List UInt8) : ∀ g' ∈ segs, g' ≠ .route → segC (s.setR v) g' = segC s g' := by
  intro g' hg hne
  simp only [segs, List.mem_cons, List.not_mem_nil, or_false] at hg
  rcases hg with rfl | rfl | rfl | rfl | rfl | rfl | rfl | rfl | rfl | rfl | rfl | rfl | rfl | rfl | rfl | rfl | rfl | rfl | rfl | rfl | rfl | rfl | rfl
  all_goals first | rfl | exact absurd rfl hne
def offN (j : Nat) : Nat := [33, 34, 35, 36, 37, 102, 103, 296, 297, 298, 299, 300].getD j 0
def offH (j : Nat) : Nat := [1, 38, 70, 104, 136, 168, 200, 232, 264].getD j 0
theorem offN_eq : ∀ j, j < 12 → offs segs (.num j) = offN j ∧ (Seg.num j) ∈ segs := by decide
theorem offH_eq : ∀ j, j < 9 → offs segs (.hash j) = offH j ∧ (Seg.hash j) ∈ segs := by decide
theorem offR_eq : offs segs .route = 301 ∧ Seg.route ∈ segs := by decide
theorem offK_eq : offs segs .kind = 0 ∧ Seg.kind ∈ segs := by decide
theorem saidC_n {s : Said} (h : s.wf) (j : Nat) (hj : j < 12) : (saidC s)[offN j]? = some (.int .i64 (s.n j)) := by
  obtain ⟨e, hm⟩ := offN_eq j hj
  have := said_seg h _ hm 0 Nat.zero_lt_one
  rwa [e] at this
theorem saidC_kind {s : Said} (h : s.wf) : (saidC s)[0]? = some (.int .i64 s.kind) := said_seg h _ offK_eq.2 0 (by decide)
theorem saidC_route {s : Said} (h : s.wf) : (saidC s)[301]? = some (.string ⟨s.route.toArray⟩) := by
  have := said_seg h _ offR_eq.2 0 (by decide)
  rwa [offR_eq.1] at this
theorem saidC_h {s : Said} (h : s.wf) (j : Nat) (hj : j < 9) (i : Nat) (hi : i < 32) : (saidC s)[offH j + i]? = (hC (s.h j))[i]? := by
  obtain ⟨e, hm⟩ := offH_eq j hj
  have := said_seg h _ hm i hi
  rw [e] at this
  rw [this, segC, Array.getElem?_toList]
theorem saidC_setN {s : Said} (h : s.wf) (j : Nat) (hj : j < 12) (v : Int) : (saidC s).setIfInBounds (offN j) (.int .i64 v) = saidC (s.setN j v) := by
  obtain ⟨e, hm⟩ := offN_eq j hj
  have := said_put h (Said.setN_wf h j v) _ hm (segN_o s j v hj)
  rw [segN s j v hj, e, set1] at this
  exact this
theorem saidC_setR {s : Said} (h : s.wf) (v : List UInt8) : (saidC s).setIfInBounds 301 (.string ⟨v.toArray⟩) = saidC (s.setR v) := by
  have := said_put h (Said.setR_wf h v) _ offR_eq.2 (segR_o s v)
  rw [offR_eq.1] at this
  exact this
theorem saidC_setK {s : Said} (h : s.wf) (k : Int) : (saidC s).setIfInBounds 0 (.int .i64 k) = saidC { s with kind := k } := by
  have := said_put h (s' := { s with kind := k }) (fun j hj => h j hj) .kind offK_eq.2 (fun g' hg hne => by
    simp only [segs, List.mem_cons, List.not_mem_nil, or_false] at hg
    rcases hg with rfl | rfl | rfl | rfl | rfl | rfl | rfl | rfl | rfl | rfl | rfl | rfl | rfl | rfl | rfl | rfl | rfl | rfl | rfl | rfl | rfl | rfl | rfl
    all_goals first | rfl | exact absurd rfl hne)
  rw [offK_eq.1] at this
  exact this
theorem saidC_setH {s : Said} (h : s.wf) (j : Nat) (hj : j < 9) (v : List UInt8) (hv : v.length = 32) : setFrom (saidC s) (offH j) (hC v).toList = saidC (s.setH j v) := by
  obtain ⟨e, hm⟩ := offH_eq j hj
  have := said_put h (Said.setH_wf h j v hv) _ hm (segH_o s j v hj)
  rw [segH s j v hj, e] at this
  exact this
theorem saidC_one (s : Said) : (saidC s).all (·.oneCell') = true := by
  rw [Array.all_eq_true_iff_forall_mem]
  intro v hv
  unfold saidC flat at hv
  rw [List.mem_toArray, List.mem_flatten] at hv
  obtain ⟨l, hl, hv⟩ := hv
  obtain ⟨g, _, rfl⟩ := List.mem_map.1 hl
  cases g with
  | hash j => exact Array.all_eq_true_iff_forall_mem.1 (hC_one (s.h j)) _ (Array.mem_toList_iff.1 hv)
  | kind => simp only [segC, List.mem_singleton] at hv; subst hv; rfl
  | num j => simp only [segC, List.mem_singleton] at hv; subst hv; rfl
  | route => simp only [segC, List.mem_singleton] at hv; subst hv; rfl
theorem pad32_len (l : List UInt8) : (pad32 l).length = 32 := by
  unfold pad32
  split
  · assumption
  · exact z32_len
end Ms
open Ms
theorem infoSaid : (Tryz.prog.info? 29).map (·.size) = some 302 := by kernel_rfl
section
variable {w : World} {g : Nat} {s : Said}
theorem allocSaid (w : World) : (Instr.alloc 29 true (.tuple #[])).run Tryz.prog w = .ok (.pointer (some ⟨w.heap.size, 0, none⟩)) (w.alloc (.cells (saidC (Ms.blank 0)) 29)) := by kernel_rfl
theorem boxSaid (h : s.wf) (w : World) : (Instr.box 29 (.agg (saidC s))).run Tryz.prog w = .ok (.pointer (some ⟨w.heap.size, 0, none⟩)) (w.alloc (.cells (saidC s) 29)) := by
  have hs := saidC_size h
  go_simp
theorem loadSaid (h : s.wf) (hr : Row w g 29 (saidC s)) : (Instr.loadAt 29 (.pointer (some ⟨g, 0, none⟩))).run Tryz.prog w = .ok (.agg (saidC s)) w :=
  run_load_row hr Tryz.underlying29 rfl (by rw [saidC_size h]; exact infoSaid)
theorem storeSaid {s' : Said} (h : s.wf) (h' : s'.wf) (hr : Row w g 29 (saidC s)) : ∃ w', (Instr.storeAt 29 (.pointer (some ⟨g, 0, none⟩)) (.agg (saidC s'))).run Tryz.prog w = .ok () w' ∧ Row w' g 29 (saidC s') ∧ w.grownBy w' (some g) := by
  have h1 := saidC_size h
  have h2 := saidC_size h'
  refine ⟨_, run_store_row hr (saidC s') (by rw [h2]; exact infoSaid) (by rw [h1, h2]; decide) (saidC_one _), ?_, grown_setCells _ _ _⟩
  have hr2 := row_setCells (saidC s').toList 0 w _ hr
  rw [setFrom_whole _ _ (by rw [Array.length_toList, h1, h2]), Array.toArray_toList] at hr2
  exact hr2
theorem loadSaidN (h : s.wf) (hr : Row w g 29 (saidC s)) (j : Nat) (hj : j < 12) : (Instr.loadAt 2 (.pointer (some ⟨g, offN j, none⟩))).run Tryz.prog w = .ok (.int .i64 (s.n j)) w := by
  have hc : w.cell? ⟨g, offN j, none⟩ = some (.int .i64 (s.n j)) := (hr.cell _).trans (saidC_n h j hj)
  go_simp
theorem storeSaidN (h : s.wf) (hr : Row w g 29 (saidC s)) (j : Nat) (hj : j < 12) (v : Int) : (Instr.storeAt 2 (.pointer (some ⟨g, offN j, none⟩)) (.int .i64 v)).run Tryz.prog w = .ok () (w.setCell ⟨g, offN j, none⟩ (.int .i64 v)) ∧ Row (w.setCell ⟨g, offN j, none⟩ (.int .i64 v)) g 29 (saidC (s.setN j v)) := by
  have hc : w.cell? ⟨g, offN j, none⟩ = some (.int .i64 (s.n j)) := (hr.cell _).trans (saidC_n h j hj)
  have hf : w.frozen? ⟨g, offN j, none⟩ = false := hr.frozen _
  refine ⟨by go_simp, ?_⟩
  have := hr.set (offN j) (.int .i64 v)
  rwa [saidC_setN h j hj v] at this
theorem loadSaidH (h : s.wf) (hr : Row w g 29 (saidC s)) (j : Nat) (hj : j < 9) : (Instr.loadAt 24 (.pointer (some ⟨g, offH j, none⟩))).run Tryz.prog w = .ok (.agg (hC (s.h j))) w := by
  have hz := hC_size _ (Nat.le_of_eq (h j hj))
  exact run_load_part hr (fun i hi => saidC_h h j hj i (by omega)) Tryz.underlying24 rfl (by rw [hz]; exact infoH)
theorem offH_le : ∀ j, j < 9 → offH j + 32 ≤ 302 := by decide
theorem storeSaidH (h : s.wf) (hr : Row w g 29 (saidC s)) (j : Nat) (hj : j < 9) (v : List UInt8) (hv : v.length = 32) : ∃ w', (Instr.storeAt 24 (.pointer (some ⟨g, offH j, none⟩)) (.agg (hC v))).run Tryz.prog w = .ok () w' ∧ Row w' g 29 (saidC (s.setH j v)) ∧ w.grownBy w' (some g) := by
  have hz := hC_size v (Nat.le_of_eq hv)
  refine ⟨_, run_store_row hr (hC v) (by rw [hz]; exact infoH) (by rw [hz, saidC_size h]; exact offH_le j hj) (hC_one v), ?_, grown_setCells _ _ _⟩
  have h2 := row_setCells (hC v).toList (offH j) w _ hr
  rw [saidC_setH h j hj v hv] at h2
  exact h2
theorem loadSaidR (h : s.wf) (hr : Row w g 29 (saidC s)) : (Instr.loadAt 9 (.pointer (some ⟨g, 301, none⟩))).run Tryz.prog w = .ok (.string ⟨s.route.toArray⟩) w := by
  have hc : w.cell? ⟨g, 301, none⟩ = some (.string ⟨s.route.toArray⟩) := (hr.cell _).trans (saidC_route h)
  go_simp
theorem storeSaidR (h : s.wf) (hr : Row w g 29 (saidC s)) (v : List UInt8) : (Instr.storeAt 9 (.pointer (some ⟨g, 301, none⟩)) (.string ⟨v.toArray⟩)).run Tryz.prog w = .ok () (w.setCell ⟨g, 301, none⟩ (.string ⟨v.toArray⟩)) ∧ Row (w.setCell ⟨g, 301, none⟩ (.string ⟨v.toArray⟩)) g 29 (saidC (s.setR v)) := by
  have hc : w.cell? ⟨g, 301, none⟩ = some (.string ⟨s.route.toArray⟩) := (hr.cell _).trans (saidC_route h)
  have hf : w.frozen? ⟨g, 301, none⟩ = false := hr.frozen _
  refine ⟨by go_simp, ?_⟩
  have := hr.set 301 (.string ⟨v.toArray⟩)
  rwa [saidC_setR h v] at this
end
end Go.Proofs.YtcajhdmppfiaeaaGreat
namespace Go.Proofs.YtcajhdmppfiaeaaGreat
open Go.RowKit Ms
section
variable {P : Program} {w : World} {ops : Array Oper} {rest : List Oper} {o : Oper} {a : Act} {Q : Exit → Act → World → Prop}
theorem wpList_callV (hgd : o.guard = none) {f : FuncId} {bound all : Array Value} (x : Operand) (xs : Array Operand) (ts : Array TypeId) {vs : Array Value} (ho : o.op = .call { callee := .value x, args := xs, argTypes := ts }) (hf : a.eval x = .func (.func f) #[] bound) (hv : xs.map a.eval = vs) (eg : ∀ args w, (callFunc f args).run P w = .ok (.enter f args) w) (hall : vs ++ bound = all)
    (h : Calls P f all w fun e w' => (∃ v, e = .returned v ∧ wpList P ops Q rest (a.put o.dst v) w') ∨ (∃ p, e = .panicked p ∧ Q (.panic p) a w')) : wpList P ops Q (o :: rest) a w := by
  subst hall
  refine wpList_plain hgd fun K hK => ?_
  have hr : ((do let d ← resolve a.eval { callee := .value x, args := xs, argTypes := ts } o.type; invoke d.target d.args) : Sem Next).run P w = .ok (.enter f (vs ++ bound)) w := by
    simp only [resolve, hf, hv]
    simp [invoke, go_sem, eg]
  unfold Oper.wp execOp
  simp only [ho]
  rw [hr]
  refine h.mono fun e W' h => ?_
  rcases h with ⟨v, he, hq⟩ | ⟨p, he, hq⟩
  · subst he; exact hK _ _ hq
  · subst he; exact hq
end
def nFn (j : Nat) : FuncId := match j with
  | 1 => 77
  | 2 => 78
  | 3 => 79
  | 4 => 80
  | 5 => 82
  | 6 => 62
  | 7 => 63
  | 8 => 64
  | 9 => 65
  | 10 => 86
  | _ => 66
def hFn (j : Nat) : FuncId := match j with
  | 1 => 81
  | 3 => 68
  | 4 => 69
  | 5 => 83
  | 6 => 72
  | 7 => 70
  | _ => 71
def okH (j : Nat) : Bool := decide (1 ≤ j) && decide (j ≤ 8) && decide (j ≠ 2)
theorem nfn_1 (g : Nat) (w : World) : Calls Tryz.prog 77 #[.pointer (some ⟨g, 0, none⟩)] w fun e w' => e = .returned (.pointer (some ⟨g, offN 1, none⟩)) ∧ w = w' := by
  go_enter Tryz.func77, Tryz.ntmps77
  go_wp2
  go_ret
  exact ⟨rfl, rfl⟩
theorem nfn_2 (g : Nat) (w : World) : Calls Tryz.prog 78 #[.pointer (some ⟨g, 0, none⟩)] w fun e w' => e = .returned (.pointer (some ⟨g, offN 2, none⟩)) ∧ w = w' := by
  go_enter Tryz.func78, Tryz.ntmps78
  go_wp2
  go_ret
  exact ⟨rfl, rfl⟩
theorem nfn_3 (g : Nat) (w : World) : Calls Tryz.prog 79 #[.pointer (some ⟨g, 0, none⟩)] w fun e w' => e = .returned (.pointer (some ⟨g, offN 3, none⟩)) ∧ w = w' := by
  go_enter Tryz.func79, Tryz.ntmps79
  go_wp2
  go_ret
  exact ⟨rfl, rfl⟩
theorem nfn_4 (g : Nat) (w : World) : Calls Tryz.prog 80 #[.pointer (some ⟨g, 0, none⟩)] w fun e w' => e = .returned (.pointer (some ⟨g, offN 4, none⟩)) ∧ w = w' := by
  go_enter Tryz.func80, Tryz.ntmps80
  go_wp2
  go_ret
  exact ⟨rfl, rfl⟩
theorem nfn_5 (g : Nat) (w : World) : Calls Tryz.prog 82 #[.pointer (some ⟨g, 0, none⟩)] w fun e w' => e = .returned (.pointer (some ⟨g, offN 5, none⟩)) ∧ w = w' := by
  go_enter Tryz.func82, Tryz.ntmps82
  go_wp2
  go_ret
  exact ⟨rfl, rfl⟩
theorem nfn_6 (g : Nat) (w : World) : Calls Tryz.prog 62 #[.pointer (some ⟨g, 0, none⟩)] w fun e w' => e = .returned (.pointer (some ⟨g, offN 6, none⟩)) ∧ w = w' := by
  go_enter Tryz.func62, Tryz.ntmps62
  go_wp2
  go_ret
  exact ⟨rfl, rfl⟩
theorem nfn_7 (g : Nat) (w : World) : Calls Tryz.prog 63 #[.pointer (some ⟨g, 0, none⟩)] w fun e w' => e = .returned (.pointer (some ⟨g, offN 7, none⟩)) ∧ w = w' := by
  go_enter Tryz.func63, Tryz.ntmps63
  go_wp2
  go_ret
  exact ⟨rfl, rfl⟩
theorem nfn_8 (g : Nat) (w : World) : Calls Tryz.prog 64 #[.pointer (some ⟨g, 0, none⟩)] w fun e w' => e = .returned (.pointer (some ⟨g, offN 8, none⟩)) ∧ w = w' := by
  go_enter Tryz.func64, Tryz.ntmps64
  go_wp2
  go_ret
  exact ⟨rfl, rfl⟩
theorem nfn_9 (g : Nat) (w : World) : Calls Tryz.prog 65 #[.pointer (some ⟨g, 0, none⟩)] w fun e w' => e = .returned (.pointer (some ⟨g, offN 9, none⟩)) ∧ w = w' := by
  go_enter Tryz.func65, Tryz.ntmps65
  go_wp2
  go_ret
  exact ⟨rfl, rfl⟩
theorem nfn_10 (g : Nat) (w : World) : Calls Tryz.prog 86 #[.pointer (some ⟨g, 0, none⟩)] w fun e w' => e = .returned (.pointer (some ⟨g, offN 10, none⟩)) ∧ w = w' := by
  go_enter Tryz.func86, Tryz.ntmps86
  go_wp2
  go_ret
  exact ⟨rfl, rfl⟩
theorem nfn_11 (g : Nat) (w : World) : Calls Tryz.prog 66 #[.pointer (some ⟨g, 0, none⟩)] w fun e w' => e = .returned (.pointer (some ⟨g, offN 11, none⟩)) ∧ w = w' := by
  go_enter Tryz.func66, Tryz.ntmps66
  go_wp2
  go_ret
  exact ⟨rfl, rfl⟩
theorem hfn_1 (g : Nat) (w : World) : Calls Tryz.prog 81 #[.pointer (some ⟨g, 0, none⟩)] w fun e w' => e = .returned (.pointer (some ⟨g, offH 1, none⟩)) ∧ w = w' := by
  go_enter Tryz.func81, Tryz.ntmps81
  go_wp2
  go_ret
  exact ⟨rfl, rfl⟩
theorem hfn_3 (g : Nat) (w : World) : Calls Tryz.prog 68 #[.pointer (some ⟨g, 0, none⟩)] w fun e w' => e = .returned (.pointer (some ⟨g, offH 3, none⟩)) ∧ w = w' := by
  go_enter Tryz.func68, Tryz.ntmps68
  go_wp2
  go_ret
  exact ⟨rfl, rfl⟩
theorem hfn_4 (g : Nat) (w : World) : Calls Tryz.prog 69 #[.pointer (some ⟨g, 0, none⟩)] w fun e w' => e = .returned (.pointer (some ⟨g, offH 4, none⟩)) ∧ w = w' := by
  go_enter Tryz.func69, Tryz.ntmps69
  go_wp2
  go_ret
  exact ⟨rfl, rfl⟩
theorem hfn_5 (g : Nat) (w : World) : Calls Tryz.prog 83 #[.pointer (some ⟨g, 0, none⟩)] w fun e w' => e = .returned (.pointer (some ⟨g, offH 5, none⟩)) ∧ w = w' := by
  go_enter Tryz.func83, Tryz.ntmps83
  go_wp2
  go_ret
  exact ⟨rfl, rfl⟩
theorem hfn_6 (g : Nat) (w : World) : Calls Tryz.prog 72 #[.pointer (some ⟨g, 0, none⟩)] w fun e w' => e = .returned (.pointer (some ⟨g, offH 6, none⟩)) ∧ w = w' := by
  go_enter Tryz.func72, Tryz.ntmps72
  go_wp2
  go_ret
  exact ⟨rfl, rfl⟩
theorem hfn_7 (g : Nat) (w : World) : Calls Tryz.prog 70 #[.pointer (some ⟨g, 0, none⟩)] w fun e w' => e = .returned (.pointer (some ⟨g, offH 7, none⟩)) ∧ w = w' := by
  go_enter Tryz.func70, Tryz.ntmps70
  go_wp2
  go_ret
  exact ⟨rfl, rfl⟩
theorem hfn_8 (g : Nat) (w : World) : Calls Tryz.prog 71 #[.pointer (some ⟨g, 0, none⟩)] w fun e w' => e = .returned (.pointer (some ⟨g, offH 8, none⟩)) ∧ w = w' := by
  go_enter Tryz.func71, Tryz.ntmps71
  go_wp2
  go_ret
  exact ⟨rfl, rfl⟩
theorem nfn_any (g j : Nat) (w : World) (h1 : 1 ≤ j) (h2 : j ≤ 11) : Calls Tryz.prog (nFn j) #[.pointer (some ⟨g, 0, none⟩)] w fun e w' => e = .returned (.pointer (some ⟨g, offN j, none⟩)) ∧ w = w' := by
  rcases j with _ | _ | _ | _ | _ | _ | _ | _ | _ | _ | _ | _ | j
  · omega
  · exact nfn_1 g w
  · exact nfn_2 g w
  · exact nfn_3 g w
  · exact nfn_4 g w
  · exact nfn_5 g w
  · exact nfn_6 g w
  · exact nfn_7 g w
  · exact nfn_8 g w
  · exact nfn_9 g w
  · exact nfn_10 g w
  · exact nfn_11 g w
  · omega
theorem hfn_any (g j : Nat) (w : World) (h : okH j = true) : Calls Tryz.prog (hFn j) #[.pointer (some ⟨g, 0, none⟩)] w fun e w' => e = .returned (.pointer (some ⟨g, offH j, none⟩)) ∧ w = w' := by
  rcases j with _ | _ | _ | _ | _ | _ | _ | _ | _ | j
  · simp [okH] at h
  · exact hfn_1 g w
  · simp [okH] at h
  · exact hfn_3 g w
  · exact hfn_4 g w
  · exact hfn_5 g w
  · exact hfn_6 g w
  · exact hfn_7 g w
  · exact hfn_8 g w
  · simp [okH] at h
theorem nfn_enters (j : Nat) (args : Array Value) (w : World) : (callFunc (nFn j) args).run Tryz.prog w = .ok (.enter (nFn j) args) w := by
  unfold nFn
  split
  · exact enters_of Tryz.func77 (by kernel_rfl) rfl _ _
  · exact enters_of Tryz.func78 (by kernel_rfl) rfl _ _
  · exact enters_of Tryz.func79 (by kernel_rfl) rfl _ _
  · exact enters_of Tryz.func80 (by kernel_rfl) rfl _ _
  · exact enters_of Tryz.func82 (by kernel_rfl) rfl _ _
  · exact enters_of Tryz.func62 (by kernel_rfl) rfl _ _
  · exact enters_of Tryz.func63 (by kernel_rfl) rfl _ _
  · exact enters_of Tryz.func64 (by kernel_rfl) rfl _ _
  · exact enters_of Tryz.func65 (by kernel_rfl) rfl _ _
  · exact enters_of Tryz.func86 (by kernel_rfl) rfl _ _
  · exact enters_of Tryz.func66 (by kernel_rfl) rfl _ _
theorem hfn_enters (j : Nat) (args : Array Value) (w : World) : (callFunc (hFn j) args).run Tryz.prog w = .ok (.enter (hFn j) args) w := by
  unfold hFn
  split
  · exact enters_of Tryz.func81 (by kernel_rfl) rfl _ _
  · exact enters_of Tryz.func68 (by kernel_rfl) rfl _ _
  · exact enters_of Tryz.func69 (by kernel_rfl) rfl _ _
  · exact enters_of Tryz.func83 (by kernel_rfl) rfl _ _
  · exact enters_of Tryz.func72 (by kernel_rfl) rfl _ _
  · exact enters_of Tryz.func70 (by kernel_rfl) rfl _ _
  · exact enters_of Tryz.func71 (by kernel_rfl) rfl _ _
theorem okH_lt {j : Nat} (h : okH j = true) : j < 9 := by
  simp [okH] at h
  omega
def partN (bm bt : Nat) : Array Value := #[.func (.func 113) #[] #[.pointer (some ⟨bt, 0, none⟩)], .func (.func 114) #[] #[.pointer (some ⟨bm, 0, none⟩), .pointer (some ⟨bt, 0, none⟩)], .func (.func 115) #[] #[.pointer (some ⟨bt, 0, none⟩)]]
def partH (bt : Nat) : Array Value := #[.func (.func 116) #[] #[.pointer (some ⟨bt, 0, none⟩)], .func (.func 118) #[] #[.pointer (some ⟨bt, 0, none⟩)], .func (.func 120) #[] #[.pointer (some ⟨bt, 0, none⟩)]]
def partR : Array Value := #[.func (.func 122) #[] #[], .func (.func 124) #[] #[], .func (.func 126) #[] #[]]
def PartC (W : World) (cs : Array Value) : Fld → Prop
  | .num j m => 1 ≤ j ∧ j ≤ 11 ∧ ∃ bm bt, cs = partN bm bt ∧ Row W bm 2 #[.int .i64 m] ∧ Row W bt 128 #[.func (.func (nFn j)) #[] #[]]
  | .hash j => okH j = true ∧ ∃ bt, cs = partH bt ∧ Row W bt 131 #[.func (.func (hFn j)) #[] #[]]
  | .route => cs = partR
def KT (W W' : World) : Prop := ∀ b T cs, (T = 2 ∨ T = 128 ∨ T = 131 ∨ T = 78) → Row W b T cs → Row W' b T cs
theorem KT.refl (W : World) : KT W W := fun _ _ _ _ h => h
theorem KT.trans {a b c : World} (h : KT a b) (k : KT b c) : KT a c := fun _ _ _ ht hr => k _ _ _ ht (h _ _ _ ht hr)
theorem Row.type {w : World} {b : Nat} {T T' : TypeId} {cs cs' : Array Value} (h : Row w b T cs) (h' : Row w b T' cs') : T = T' := by
  have e : (some (Obj.cells cs T (0, 0))) = some (Obj.cells cs' T' (0, 0)) := (show w.heap[b]? = some (Obj.cells cs T (0, 0)) from h).symm.trans (show w.heap[b]? = some (Obj.cells cs' T' (0, 0)) from h')
  injection e with e
  injection e
theorem PartC.kt {W W' : World} {cs : Array Value} {f : Fld} (h : PartC W cs f) (k : KT W W') : PartC W' cs f := by
  cases f with
  | num j m => obtain ⟨h1, h2, bm, bt, e, r1, r2⟩ := h; exact ⟨h1, h2, bm, bt, e, k _ _ _ (.inl rfl) r1, k _ _ _ (.inr (.inl rfl)) r2⟩
  | hash j => obtain ⟨h1, bt, e, r1⟩ := h; exact ⟨h1, bt, e, k _ _ _ (.inr (.inr (.inl rfl))) r1⟩
  | route => exact h
theorem PartC.m {W W' : World} {cs : Array Value} {f : Fld} (h : PartC W cs f) (k : LaterM W W') : PartC W' cs f := by
  cases f with
  | num j m => obtain ⟨h1, h2, bm, bt, e, r1, r2⟩ := h; exact ⟨h1, h2, bm, bt, e, r1.laterM k, r2.laterM k⟩
  | hash j => obtain ⟨h1, bt, e, r1⟩ := h; exact ⟨h1, bt, e, r1.laterM k⟩
  | route => exact h
theorem PartC.size {W : World} {cs : Array Value} {f : Fld} (h : PartC W cs f) : ∃ c0 c1 c2, cs = #[c0, c1, c2] := by
  cases f with
  | num j m => obtain ⟨h1, h2, bm, bt, e, r1, r2⟩ := h; exact ⟨_, _, _, e⟩
  | hash j => obtain ⟨h1, bt, e, r1⟩ := h; exact ⟨_, _, _, e⟩
  | route => exact ⟨_, _, _, h⟩
def PrM.part (f : Fld) : PrM := ⟨fun v W => ∃ cs, v = .agg cs ∧ PartC W cs f, fun _ _ _ ⟨cs, e, h⟩ k => ⟨cs, e, h.m k⟩⟩
def RdP (W : World) (A : Option Addr) (fs : List Fld) : Prop := fs ≠ [] → ∃ b xs, A = some ⟨b, 0, none⟩ ∧ Row W b 78 xs ∧ ∀ i (h : i < fs.length), ∃ cs, PartC W cs fs[i] ∧ ∀ j v, cs[j]? = some v → xs[i * 3 + j]? = some v
theorem RdP.m {W W' : World} {A : Option Addr} {fs : List Fld} (h : RdP W A fs) (k : LaterM W W') : RdP W' A fs := fun hne => by
  obtain ⟨b, xs, e, hr, hc⟩ := h hne
  exact ⟨b, xs, e, hr.laterM k, fun i hi => by obtain ⟨cs, h1, h2⟩ := hc i hi; exact ⟨cs, h1.m k, h2⟩⟩
theorem RdP.kt {W W' : World} {A : Option Addr} {fs : List Fld} (h : RdP W A fs) (k : KT W W') : RdP W' A fs := fun hne => by
  obtain ⟨b, xs, e, hr, hc⟩ := h hne
  exact ⟨b, xs, e, k _ _ _ (.inr (.inr (.inr rfl))) hr, fun i hi => by obtain ⟨cs, h1, h2⟩ := hc i hi; exact ⟨cs, h1.kt k, h2⟩⟩
def PrM.parts (fs : List Fld) : PrM := ⟨fun v W => ∃ b, v = .slice (some ⟨b, 0, none⟩) fs.length fs.length ∧ RdP W (some ⟨b, 0, none⟩) fs, fun _ _ _ ⟨b, e, h⟩ k => ⟨b, e, h.m k⟩⟩
def KindV (W : World) (name : ByteArray) (F : FuncId) (fs : List Fld) (v : Value) : Prop := ∃ A, v = .agg #[.string name, .func (.func F) #[] #[], .slice A fs.length fs.length] ∧ RdP W A fs
theorem KindV.m {W W' : World} {name : ByteArray} {F : FuncId} {fs : List Fld} {v : Value} (h : KindV W name F fs v) (k : LaterM W W') : KindV W' name F fs v := by
  obtain ⟨A, e, h⟩ := h
  exact ⟨A, e, h.m k⟩
def PrM.kind (name : ByteArray) (F : FuncId) (fs : List Fld) : PrM := ⟨fun v W => KindV W name F fs v, fun _ _ _ h k => h.m k⟩
theorem results_cell1 {P : Program} {fn : Func} {p : Tmp} {ty : TypeId} (h : fn.results = #[.cell p ty]) (tmps : Array Value) (w : World) (g : Nat) (t : TypeId) (cs : Array Value) (d : TypeDesc)
    (hp : tmps.getD p undef = .pointer (some ⟨g, 0, none⟩)) (hg : Row w g t cs)
    (hu : P.underlying ty = some d) (hd : (match d with | .struct _ | .array _ _ => true | _ => false) = true) (hi : (P.info? ty).map (·.size) = some cs.size) :
    (results fn tmps).run P w = .ok (.agg cs) w := by
  have hp' : tmps[p]?.getD undef = .pointer (some ⟨g, 0, none⟩) := by simpa using hp
  simp [results, h, hp', asAddr, run_loadVar_row w g t ty cs (0, 0) d hg hu hd hi]
theorem infoPart : (Tryz.prog.info? 78).map (·.size) = some 3 := by kernel_rfl
theorem infoKind : (Tryz.prog.info? 71).map (·.size) = some 3 := by kernel_rfl
theorem allocPart (w : World) : (Instr.alloc 78 true (.tuple #[])).run Tryz.prog w = .ok (.pointer (some ⟨w.heap.size, 0, none⟩)) (w.alloc (.cells #[.nilFunc, .nilFunc, .nilFunc] 78)) := by kernel_rfl
theorem allocKind (w : World) : (Instr.alloc 71 true (.tuple #[])).run Tryz.prog w = .ok (.pointer (some ⟨w.heap.size, 0, none⟩)) (w.alloc (.cells #[.string ⟨#[]⟩, .nilFunc, .slice none 0 0] 71)) := by kernel_rfl
end Go.Proofs.YtcajhdmppfiaeaaGreat
namespace Go.Proofs.YtcajhdmppfiaeaaGreat
open Go.RowKit Ms
set_option maxRecDepth 100000 in
theorem mnumber_f (F : FuncId) (m : Int) (w : World) : Calls Tryz.prog 61 #[.int .i64 m, .func (.func F) #[] #[]] w fun e w' => ∃ bm bt, e = .returned (.agg (partN bm bt)) ∧ Row w' bm 2 #[.int .i64 m] ∧ Row w' bt 128 #[.func (.func F) #[] #[]] ∧ Later w w' := by
  have hmf : ∀ (fn : Fn) (first cap : Array Value) (w : World), (Instr.makeFunc fn first cap).run Tryz.prog w = .ok (.func fn first cap) w := fun _ _ _ _ => rfl
  have k1 := ((Row.new w 2 #[.int .i64 m]).alloc (.cells #[.func (.func F) #[] #[]] 128)).alloc (.cells (partN w.heap.size (w.heap.size + 1)) 78)
  have k2 := (Row.new (w.alloc (.cells #[.int .i64 m] 2)) 128 #[.func (.func F) #[] #[]]).alloc (.cells (partN w.heap.size (w.heap.size + 1)) 78)
  have k3 := Row.new ((w.alloc (.cells #[.int .i64 m] 2)).alloc (.cells #[.func (.func F) #[] #[]] 128)) 78 (partN w.heap.size (w.heap.size + 1))
  simp only [World.size_alloc] at k2 k3
  have hL : Later w (((w.alloc (.cells #[.int .i64 m] 2)).alloc (.cells #[.func (.func F) #[] #[]] 128)).alloc (.cells (partN w.heap.size (w.heap.size + 1)) 78)) := (((Later.refl w).alloc _).alloc _).alloc _
  have K1 := Lib.hid k1
  have K2 := Lib.hid k2
  have K3 := Lib.hid k3
  clear k1 k2 k3
  go_enter Tryz.func61, Tryz.ntmps61
  go_wp2
  exact bodyPost_ret (results_cell1 rfl _ _ (w.heap.size + 1 + 1) 78 (partN w.heap.size (w.heap.size + 1)) _ rfl K3.out Tryz.underlying78 rfl infoPart) rfl ⟨_, _, rfl, K1.out, K2.out, hL⟩
set_option maxRecDepth 100000 in
theorem mhash_f (F : FuncId) (w : World) : Calls Tryz.prog 67 #[.func (.func F) #[] #[]] w fun e w' => ∃ bt, e = .returned (.agg (partH bt)) ∧ Row w' bt 131 #[.func (.func F) #[] #[]] ∧ Later w w' := by
  have hmf : ∀ (fn : Fn) (first cap : Array Value) (w : World), (Instr.makeFunc fn first cap).run Tryz.prog w = .ok (.func fn first cap) w := fun _ _ _ _ => rfl
  have k2 := (Row.new w 131 #[.func (.func F) #[] #[]]).alloc (.cells (partH w.heap.size) 78)
  have k3 := Row.new (w.alloc (.cells #[.func (.func F) #[] #[]] 131)) 78 (partH w.heap.size)
  simp only [World.size_alloc] at k3
  have hL : Later w ((w.alloc (.cells #[.func (.func F) #[] #[]] 131)).alloc (.cells (partH w.heap.size) 78)) := ((Later.refl w).alloc _).alloc _
  have K2 := Lib.hid k2
  have K3 := Lib.hid k3
  clear k2 k3
  go_enter Tryz.func67, Tryz.ntmps67
  go_wp2
  exact bodyPost_ret (results_cell1 rfl _ _ (w.heap.size + 1) 78 (partH w.heap.size) _ rfl K3.out Tryz.underlying78 rfl infoPart) rfl ⟨_, rfl, K2.out, hL⟩
set_option maxRecDepth 100000 in
theorem mroute_any (w : World) : Calls Tryz.prog 87 #[] w fun e w' => e = .returned (.agg partR) ∧ Later w w' := by
  have k3 := Row.new w 78 partR
  have hL : Later w (w.alloc (.cells partR 78)) := (Later.refl w).alloc _
  have K3 := Lib.hid k3
  clear k3
  go_enter Tryz.func87, Tryz.ntmps87
  go_wp2
  exact bodyPost_ret (results_cell1 rfl _ _ w.heap.size 78 partR _ rfl K3.out Tryz.underlying78 rfl infoPart) rfl ⟨rfl, hL⟩
theorem mnumber_any (j : Nat) (m : Int) (w : World) (h1 : 1 ≤ j) (h2 : j ≤ 11) : Calls Tryz.prog 61 #[.int .i64 m, .func (.func (nFn j)) #[] #[]] w fun e w' => ∃ v, e = .returned v ∧ Later w w' ∧ (PrM.part (.num j m)).R v w' :=
  (mnumber_f (nFn j) m w).mono fun e w' ⟨bm, bt, e1, k1, k2, hL⟩ => ⟨_, e1, hL, _, rfl, h1, h2, bm, bt, rfl, k1, k2⟩
theorem mhash_any (j : Nat) (w : World) (h : okH j = true) : Calls Tryz.prog 67 #[.func (.func (hFn j)) #[] #[]] w fun e w' => ∃ v, e = .returned v ∧ Later w w' ∧ (PrM.part (.hash j)).R v w' :=
  (mhash_f (hFn j) w).mono fun e w' ⟨bt, e1, k2, hL⟩ => ⟨_, e1, hL, _, rfl, h, bt, rfl, k2⟩
theorem mroute_part (w : World) : Calls Tryz.prog 87 #[] w fun e w' => ∃ v, e = .returned v ∧ Later w w' ∧ (PrM.part .route).R v w' :=
  (mroute_any w).mono fun e w' ⟨e1, hL⟩ => ⟨_, e1, hL, _, rfl, rfl⟩
set_option maxRecDepth 100000 in
theorem mof_any (name : ByteArray) (F : FuncId) (A : Option Addr) (n c : Nat) (w : World) : Calls Tryz.prog 75 #[.string name, .func (.func F) #[] #[], .slice A n c] w fun e w' => e = .returned (.agg #[.string name, .func (.func F) #[] #[], .slice A n c]) ∧ Later w w' := by
  have k3 := Row.new w 71 #[.string name, .func (.func F) #[] #[], .slice A n c]
  have hL : Later w (w.alloc (.cells #[.string name, .func (.func F) #[] #[], .slice A n c] 71)) := (Later.refl w).alloc _
  have K3 := Lib.hid k3
  clear k3
  go_enter Tryz.func75, Tryz.ntmps75
  go_wp2
  exact bodyPost_ret (results_cell1 rfl _ _ w.heap.size 71 #[.string name, .func (.func F) #[] #[], .slice A n c] _ rfl K3.out Tryz.underlying71 rfl infoKind) rfl ⟨rfl, hL⟩
theorem mof_kind (name : ByteArray) (F : FuncId) (fs : List Fld) (A : Option Addr) (w : World) (h : RdP w A fs) : Calls Tryz.prog 75 #[.string name, .func (.func F) #[] #[], .slice A fs.length fs.length] w fun e w' => ∃ v, e = .returned v ∧ Later w w' ∧ (PrM.kind name F fs).R v w' :=
  (mof_any name F A fs.length fs.length w).mono fun e w' ⟨e1, hL⟩ => ⟨_, e1, hL, A, rfl, h.m hL.m⟩
end Go.Proofs.YtcajhdmppfiaeaaGreat
namespace Go.Proofs.YtcajhdmppfiaeaaGreat
open Go.RowKit Ms
theorem app_cons {α : Type} (a : α) (l m : List α) : List.append (a :: l) m = a :: List.append l m := rfl
theorem app_nil {α : Type} (m : List α) : List.append [] m = m := rfl
def PartAt (W : World) (p : Nat) (f : Fld) : Prop := ∃ cs, Row W p 78 cs ∧ PartC W cs f
theorem PartAt.later {W W' : World} {p : Nat} {f : Fld} (h : PartAt W p f) (k : Later W W') : PartAt W' p f := by
  obtain ⟨cs, h1, h2⟩ := h
  exact ⟨cs, h1.later k, h2.m k.m⟩
theorem PartC.one {W : World} {cs : Array Value} {f : Fld} (h : PartC W cs f) : cs.all (·.oneCell') = true := by
  cases f with
  | num j m => obtain ⟨h1, h2, bm, bt, rfl, r1, r2⟩ := h; simp [partN, Value.oneCell']
  | hash j => obtain ⟨h1, bt, rfl, r1⟩ := h; simp [partH, Value.oneCell']
  | route => subst h; simp [partR, Value.oneCell']
theorem newPart (w : World) {f : Fld} {cs : Array Value} (hp : PartC w cs f) : ∃ w', (Instr.storeAt 78 (.pointer (some ⟨w.heap.size, 0, none⟩)) (.agg cs)).run Tryz.prog (w.alloc (.cells #[.nilFunc, .nilFunc, .nilFunc] 78)) = .ok () w' ∧ PartAt w' w.heap.size f ∧ Later w w' := by
  have hz : cs.size = 3 := by obtain ⟨c0, c1, c2, rfl⟩ := hp.size; rfl
  have hr := Row.new w 78 #[.nilFunc, .nilFunc, .nilFunc]
  have hg := grown_setCells (g := w.heap.size) cs.toList 0 (w.alloc (.cells #[.nilFunc, .nilFunc, .nilFunc] 78))
  have hL : Later w ((w.alloc (.cells #[.nilFunc, .nilFunc, .nilFunc] 78)).setCells w.heap.size 0 cs.toList) := Below.grown ((Later.refl w).alloc _) hg (by simp only [World.size_alloc]; omega) (fun j e => by cases e; exact Nat.le_refl _)
  refine ⟨_, run_store_row hr cs (by rw [hz]; exact infoPart) (by rw [hz]; decide) hp.one, ⟨cs, ?_, hp.m hL.m⟩, hL⟩
  have hr2 := row_setCells cs.toList 0 _ _ hr
  rwa [setFrom_whole _ _ (by rw [Array.length_toList, hz]; rfl), Array.toArray_toList] at hr2
theorem loadPart {W : World} {p : Nat} {f : Fld} {cs : Array Value} (hr : Row W p 78 cs) (hc : PartC W cs f) : (Instr.loadAt 78 (.pointer (some ⟨p, 0, none⟩))).run Tryz.prog W = .ok (.agg cs) W := by
  obtain ⟨c0, c1, c2, rfl⟩ := hc.size
  exact run_load_row hr Tryz.underlying78 rfl infoPart
theorem op_loadPart {Q : Exit → Act → World → Prop} {o : Oper} {a : Act} {W w : World} {p : Nat} {f : Fld} {x : Operand} (ho : o.op = .load 78 x) (hx : a.eval x = .pointer (some ⟨p, 0, none⟩)) (h : PartAt w p f) (hL : Later w W) : o.wp Tryz.prog a W (fun a' W' => ∃ v, a' = a.put o.dst v ∧ Later W W' ∧ (PrM.part f).R v W') Q := by
  obtain ⟨cs, h1, h2⟩ := h.later hL
  exact op_load ho hx (loadPart h1 h2) ⟨cs, rfl, h2⟩
theorem buildP1 (a0 b0 c0 : Value) (w : World) : (Instr.buildSlice 69 1 #[(0, .agg #[a0, b0, c0])]).run Tryz.prog w = .ok (.slice (some ⟨w.heap.size, 0, none⟩) 1 1) (w.alloc (.cells #[a0, b0, c0] 78)) := by kernel_rfl
set_option maxRecDepth 100000 in
theorem parts1 (f0 : Fld) (v0 : Value) (W : World) (h0 : (PrM.part f0).R v0 W) : ∃ W', (Instr.buildSlice 69 1 #[(0, v0)]).run Tryz.prog W = .ok (.slice (some ⟨W.heap.size, 0, none⟩) 1 1) W' ∧ Later W W' ∧ (PrM.parts [f0]).R (.slice (some ⟨W.heap.size, 0, none⟩) 1 1) W' := by
  obtain ⟨x0, rfl, p0⟩ := h0
  obtain ⟨a0, b0, c0, rfl⟩ := p0.size
  have hL : Later W (W.alloc (.cells #[a0, b0, c0] 78)) := (Later.refl W).alloc _
  have hr := Row.new W 78 #[a0, b0, c0]
  refine ⟨_, buildP1 a0 b0 c0 W, hL, W.heap.size, rfl, fun _ => ⟨_, _, rfl, hr, fun i hi => ?_⟩⟩
  rcases i with _ | i
  · exact ⟨_, p0.m hL.m, fun j v e => by rcases j with _ | _ | _ | j <;> first | exact e | cases e⟩
  · exact absurd hi (by simp)
theorem buildP2 (a0 b0 c0 a1 b1 c1 : Value) (w : World) : (Instr.buildSlice 69 2 #[(0, .agg #[a0, b0, c0]), (1, .agg #[a1, b1, c1])]).run Tryz.prog w = .ok (.slice (some ⟨w.heap.size, 0, none⟩) 2 2) (w.alloc (.cells #[a0, b0, c0, a1, b1, c1] 78)) := by kernel_rfl
set_option maxRecDepth 100000 in
theorem parts2 (f0 f1 : Fld) (v0 v1 : Value) (W : World) (h0 : (PrM.part f0).R v0 W) (h1 : (PrM.part f1).R v1 W) : ∃ W', (Instr.buildSlice 69 2 #[(0, v0), (1, v1)]).run Tryz.prog W = .ok (.slice (some ⟨W.heap.size, 0, none⟩) 2 2) W' ∧ Later W W' ∧ (PrM.parts [f0, f1]).R (.slice (some ⟨W.heap.size, 0, none⟩) 2 2) W' := by
  obtain ⟨x0, rfl, p0⟩ := h0
  obtain ⟨a0, b0, c0, rfl⟩ := p0.size
  obtain ⟨x1, rfl, p1⟩ := h1
  obtain ⟨a1, b1, c1, rfl⟩ := p1.size
  have hL : Later W (W.alloc (.cells #[a0, b0, c0, a1, b1, c1] 78)) := (Later.refl W).alloc _
  have hr := Row.new W 78 #[a0, b0, c0, a1, b1, c1]
  refine ⟨_, buildP2 a0 b0 c0 a1 b1 c1 W, hL, W.heap.size, rfl, fun _ => ⟨_, _, rfl, hr, fun i hi => ?_⟩⟩
  rcases i with _ | _ | i
  · exact ⟨_, p0.m hL.m, fun j v e => by rcases j with _ | _ | _ | j <;> first | exact e | cases e⟩
  · exact ⟨_, p1.m hL.m, fun j v e => by rcases j with _ | _ | _ | j <;> first | exact e | cases e⟩
  · exact absurd hi (by simp)
theorem buildP3 (a0 b0 c0 a1 b1 c1 a2 b2 c2 : Value) (w : World) : (Instr.buildSlice 69 3 #[(0, .agg #[a0, b0, c0]), (1, .agg #[a1, b1, c1]), (2, .agg #[a2, b2, c2])]).run Tryz.prog w = .ok (.slice (some ⟨w.heap.size, 0, none⟩) 3 3) (w.alloc (.cells #[a0, b0, c0, a1, b1, c1, a2, b2, c2] 78)) := by kernel_rfl
set_option maxRecDepth 100000 in
theorem parts3 (f0 f1 f2 : Fld) (v0 v1 v2 : Value) (W : World) (h0 : (PrM.part f0).R v0 W) (h1 : (PrM.part f1).R v1 W) (h2 : (PrM.part f2).R v2 W) : ∃ W', (Instr.buildSlice 69 3 #[(0, v0), (1, v1), (2, v2)]).run Tryz.prog W = .ok (.slice (some ⟨W.heap.size, 0, none⟩) 3 3) W' ∧ Later W W' ∧ (PrM.parts [f0, f1, f2]).R (.slice (some ⟨W.heap.size, 0, none⟩) 3 3) W' := by
  obtain ⟨x0, rfl, p0⟩ := h0
  obtain ⟨a0, b0, c0, rfl⟩ := p0.size
  obtain ⟨x1, rfl, p1⟩ := h1
  obtain ⟨a1, b1, c1, rfl⟩ := p1.size
  obtain ⟨x2, rfl, p2⟩ := h2
  obtain ⟨a2, b2, c2, rfl⟩ := p2.size
  have hL : Later W (W.alloc (.cells #[a0, b0, c0, a1, b1, c1, a2, b2, c2] 78)) := (Later.refl W).alloc _
  have hr := Row.new W 78 #[a0, b0, c0, a1, b1, c1, a2, b2, c2]
  refine ⟨_, buildP3 a0 b0 c0 a1 b1 c1 a2 b2 c2 W, hL, W.heap.size, rfl, fun _ => ⟨_, _, rfl, hr, fun i hi => ?_⟩⟩
  rcases i with _ | _ | _ | i
  · exact ⟨_, p0.m hL.m, fun j v e => by rcases j with _ | _ | _ | j <;> first | exact e | cases e⟩
  · exact ⟨_, p1.m hL.m, fun j v e => by rcases j with _ | _ | _ | j <;> first | exact e | cases e⟩
  · exact ⟨_, p2.m hL.m, fun j v e => by rcases j with _ | _ | _ | j <;> first | exact e | cases e⟩
  · exact absurd hi (by simp)
theorem buildP5 (a0 b0 c0 a1 b1 c1 a2 b2 c2 a3 b3 c3 a4 b4 c4 : Value) (w : World) : (Instr.buildSlice 69 5 #[(0, .agg #[a0, b0, c0]), (1, .agg #[a1, b1, c1]), (2, .agg #[a2, b2, c2]), (3, .agg #[a3, b3, c3]), (4, .agg #[a4, b4, c4])]).run Tryz.prog w = .ok (.slice (some ⟨w.heap.size, 0, none⟩) 5 5) (w.alloc (.cells #[a0, b0, c0, a1, b1, c1, a2, b2, c2, a3, b3, c3, a4, b4, c4] 78)) := by kernel_rfl
set_option maxRecDepth 100000 in
theorem parts5 (f0 f1 f2 f3 f4 : Fld) (v0 v1 v2 v3 v4 : Value) (W : World) (h0 : (PrM.part f0).R v0 W) (h1 : (PrM.part f1).R v1 W) (h2 : (PrM.part f2).R v2 W) (h3 : (PrM.part f3).R v3 W) (h4 : (PrM.part f4).R v4 W) : ∃ W', (Instr.buildSlice 69 5 #[(0, v0), (1, v1), (2, v2), (3, v3), (4, v4)]).run Tryz.prog W = .ok (.slice (some ⟨W.heap.size, 0, none⟩) 5 5) W' ∧ Later W W' ∧ (PrM.parts [f0, f1, f2, f3, f4]).R (.slice (some ⟨W.heap.size, 0, none⟩) 5 5) W' := by
  obtain ⟨x0, rfl, p0⟩ := h0
  obtain ⟨a0, b0, c0, rfl⟩ := p0.size
  obtain ⟨x1, rfl, p1⟩ := h1
  obtain ⟨a1, b1, c1, rfl⟩ := p1.size
  obtain ⟨x2, rfl, p2⟩ := h2
  obtain ⟨a2, b2, c2, rfl⟩ := p2.size
  obtain ⟨x3, rfl, p3⟩ := h3
  obtain ⟨a3, b3, c3, rfl⟩ := p3.size
  obtain ⟨x4, rfl, p4⟩ := h4
  obtain ⟨a4, b4, c4, rfl⟩ := p4.size
  have hL : Later W (W.alloc (.cells #[a0, b0, c0, a1, b1, c1, a2, b2, c2, a3, b3, c3, a4, b4, c4] 78)) := (Later.refl W).alloc _
  have hr := Row.new W 78 #[a0, b0, c0, a1, b1, c1, a2, b2, c2, a3, b3, c3, a4, b4, c4]
  refine ⟨_, buildP5 a0 b0 c0 a1 b1 c1 a2 b2 c2 a3 b3 c3 a4 b4 c4 W, hL, W.heap.size, rfl, fun _ => ⟨_, _, rfl, hr, fun i hi => ?_⟩⟩
  rcases i with _ | _ | _ | _ | _ | i
  · exact ⟨_, p0.m hL.m, fun j v e => by rcases j with _ | _ | _ | j <;> first | exact e | cases e⟩
  · exact ⟨_, p1.m hL.m, fun j v e => by rcases j with _ | _ | _ | j <;> first | exact e | cases e⟩
  · exact ⟨_, p2.m hL.m, fun j v e => by rcases j with _ | _ | _ | j <;> first | exact e | cases e⟩
  · exact ⟨_, p3.m hL.m, fun j v e => by rcases j with _ | _ | _ | j <;> first | exact e | cases e⟩
  · exact ⟨_, p4.m hL.m, fun j v e => by rcases j with _ | _ | _ | j <;> first | exact e | cases e⟩
  · exact absurd hi (by simp)
theorem buildP9 (a0 b0 c0 a1 b1 c1 a2 b2 c2 a3 b3 c3 a4 b4 c4 a5 b5 c5 a6 b6 c6 a7 b7 c7 a8 b8 c8 : Value) (w : World) : (Instr.buildSlice 69 9 #[(0, .agg #[a0, b0, c0]), (1, .agg #[a1, b1, c1]), (2, .agg #[a2, b2, c2]), (3, .agg #[a3, b3, c3]), (4, .agg #[a4, b4, c4]), (5, .agg #[a5, b5, c5]), (6, .agg #[a6, b6, c6]), (7, .agg #[a7, b7, c7]), (8, .agg #[a8, b8, c8])]).run Tryz.prog w = .ok (.slice (some ⟨w.heap.size, 0, none⟩) 9 9) (w.alloc (.cells #[a0, b0, c0, a1, b1, c1, a2, b2, c2, a3, b3, c3, a4, b4, c4, a5, b5, c5, a6, b6, c6, a7, b7, c7, a8, b8, c8] 78)) := by kernel_rfl
set_option maxRecDepth 100000 in
theorem parts9 (f0 f1 f2 f3 f4 f5 f6 f7 f8 : Fld) (v0 v1 v2 v3 v4 v5 v6 v7 v8 : Value) (W : World) (h0 : (PrM.part f0).R v0 W) (h1 : (PrM.part f1).R v1 W) (h2 : (PrM.part f2).R v2 W) (h3 : (PrM.part f3).R v3 W) (h4 : (PrM.part f4).R v4 W) (h5 : (PrM.part f5).R v5 W) (h6 : (PrM.part f6).R v6 W) (h7 : (PrM.part f7).R v7 W) (h8 : (PrM.part f8).R v8 W) : ∃ W', (Instr.buildSlice 69 9 #[(0, v0), (1, v1), (2, v2), (3, v3), (4, v4), (5, v5), (6, v6), (7, v7), (8, v8)]).run Tryz.prog W = .ok (.slice (some ⟨W.heap.size, 0, none⟩) 9 9) W' ∧ Later W W' ∧ (PrM.parts [f0, f1, f2, f3, f4, f5, f6, f7, f8]).R (.slice (some ⟨W.heap.size, 0, none⟩) 9 9) W' := by
  obtain ⟨x0, rfl, p0⟩ := h0
  obtain ⟨a0, b0, c0, rfl⟩ := p0.size
  obtain ⟨x1, rfl, p1⟩ := h1
  obtain ⟨a1, b1, c1, rfl⟩ := p1.size
  obtain ⟨x2, rfl, p2⟩ := h2
  obtain ⟨a2, b2, c2, rfl⟩ := p2.size
  obtain ⟨x3, rfl, p3⟩ := h3
  obtain ⟨a3, b3, c3, rfl⟩ := p3.size
  obtain ⟨x4, rfl, p4⟩ := h4
  obtain ⟨a4, b4, c4, rfl⟩ := p4.size
  obtain ⟨x5, rfl, p5⟩ := h5
  obtain ⟨a5, b5, c5, rfl⟩ := p5.size
  obtain ⟨x6, rfl, p6⟩ := h6
  obtain ⟨a6, b6, c6, rfl⟩ := p6.size
  obtain ⟨x7, rfl, p7⟩ := h7
  obtain ⟨a7, b7, c7, rfl⟩ := p7.size
  obtain ⟨x8, rfl, p8⟩ := h8
  obtain ⟨a8, b8, c8, rfl⟩ := p8.size
  have hL : Later W (W.alloc (.cells #[a0, b0, c0, a1, b1, c1, a2, b2, c2, a3, b3, c3, a4, b4, c4, a5, b5, c5, a6, b6, c6, a7, b7, c7, a8, b8, c8] 78)) := (Later.refl W).alloc _
  have hr := Row.new W 78 #[a0, b0, c0, a1, b1, c1, a2, b2, c2, a3, b3, c3, a4, b4, c4, a5, b5, c5, a6, b6, c6, a7, b7, c7, a8, b8, c8]
  refine ⟨_, buildP9 a0 b0 c0 a1 b1 c1 a2 b2 c2 a3 b3 c3 a4 b4 c4 a5 b5 c5 a6 b6 c6 a7 b7 c7 a8 b8 c8 W, hL, W.heap.size, rfl, fun _ => ⟨_, _, rfl, hr, fun i hi => ?_⟩⟩
  rcases i with _ | _ | _ | _ | _ | _ | _ | _ | _ | i
  · exact ⟨_, p0.m hL.m, fun j v e => by rcases j with _ | _ | _ | j <;> first | exact e | cases e⟩
  · exact ⟨_, p1.m hL.m, fun j v e => by rcases j with _ | _ | _ | j <;> first | exact e | cases e⟩
  · exact ⟨_, p2.m hL.m, fun j v e => by rcases j with _ | _ | _ | j <;> first | exact e | cases e⟩
  · exact ⟨_, p3.m hL.m, fun j v e => by rcases j with _ | _ | _ | j <;> first | exact e | cases e⟩
  · exact ⟨_, p4.m hL.m, fun j v e => by rcases j with _ | _ | _ | j <;> first | exact e | cases e⟩
  · exact ⟨_, p5.m hL.m, fun j v e => by rcases j with _ | _ | _ | j <;> first | exact e | cases e⟩
  · exact ⟨_, p6.m hL.m, fun j v e => by rcases j with _ | _ | _ | j <;> first | exact e | cases e⟩
  · exact ⟨_, p7.m hL.m, fun j v e => by rcases j with _ | _ | _ | j <;> first | exact e | cases e⟩
  · exact ⟨_, p8.m hL.m, fun j v e => by rcases j with _ | _ | _ | j <;> first | exact e | cases e⟩
  · exact absurd hi (by simp)
def insK (i : Nat) : Option (Int × Nat) := match i with
  | 12 => some (1, 11)
  | 19 => some (2, 18)
  | 25 => some (3, 24)
  | 30 => some (4, 29)
  | 33 => some (5, 32)
  | 41 => some (6, 40)
  | 47 => some (7, 46)
  | 53 => some (8, 52)
  | 59 => some (9, 58)
  | 66 => some (10, 65)
  | 72 => some (11, 71)
  | 75 => some (12, 74)
  | 81 => some (13, 80)
  | 86 => some (14, 85)
  | _ => none
def invK (k : Int) : Nat := if k = 1 then 12 else if k = 2 then 19 else if k = 3 then 25 else if k = 4 then 30 else if k = 5 then 33 else if k = 6 then 41 else if k = 7 then 47 else if k = 8 then 53 else if k = 9 then 59 else if k = 10 then 66 else if k = 11 then 72 else if k = 12 then 75 else if k = 13 then 81 else if k = 14 then 86 else 0
theorem insK_inv {i : Nat} {k : Int} {j : Nat} (h : insK i = some (k, j)) : i = invK k := by
  unfold insK at h
  split at h
  all_goals first | (cases h; rfl) | cases h
theorem insK_inj (i : Nat) (k : Int) (j : Nat) (h : insK i = some (k, j)) (i' j' : Nat) (h' : insK i' = some (k, j')) : i' = i := (insK_inv h').trans (insK_inv h).symm
theorem insK_lt (i : Nat) (k : Int) (j : Nat) (h : insK i = some (k, j)) : i < 88 := by
  unfold insK at h
  split at h
  all_goals first | decide | cases h
noncomputable def kVs : List PrM := [PrM.any, PrM.part (.num 1 1125899906842624), PrM.part (.num 2 2147483647), PrM.part (.num 3 2147483647), PrM.part (.num 4 2147483647), PrM.part (.hash 1), PrM.part (.num 5 1125899906842624), PrM.part (.num 6 1125899906842624), PrM.part (.hash 3), PrM.part (.hash 4), PrM.parts [.num 1 1125899906842624, .num 2 2147483647, .num 3 2147483647, .num 4 2147483647, .hash 1, .num 5 1125899906842624, .num 6 1125899906842624, .hash 3, .hash 4], PrM.kind ⟨#[111, 112, 101, 110]⟩ 76 [.num 1 1125899906842624, .num 2 2147483647, .num 3 2147483647, .num 4 2147483647, .hash 1, .num 5 1125899906842624, .num 6 1125899906842624, .hash 3, .hash 4], PrM.any, PrM.eq (.func (.func 73) #[] #[]), PrM.part (.hash 5), PrM.part (.hash 3), PrM.part (.hash 4), PrM.parts [.hash 5, .hash 3, .hash 4], PrM.kind ⟨#[97, 99, 99, 101, 112, 116]⟩ 73 [.hash 5, .hash 3, .hash 4], PrM.any, PrM.part (.hash 6), PrM.part (.num 9 2147483647), PrM.part (.hash 7), PrM.parts [.hash 6, .num 9 2147483647, .hash 7], PrM.kind ⟨#[102, 117, 110, 100]⟩ 84 [.hash 6, .num 9 2147483647, .hash 7], PrM.any, PrM.eq (.func (.func 73) #[] #[]), PrM.part (.hash 7), PrM.parts [.hash 7], PrM.kind ⟨#[116, 97, 107, 101]⟩ 73 [.hash 7], PrM.any, PrM.eq (.func (.func 73) #[] #[]), PrM.kind ⟨#[114, 101, 97, 100, 121]⟩ 73 [], PrM.any, PrM.part (.num 7 2147483647), PrM.part (.num 6 1125899906842624), PrM.part (.hash 6), PrM.part (.num 10 2147483647), PrM.part .route, PrM.parts [.num 7 2147483647, .num 6 1125899906842624, .hash 6, .num 10 2147483647, .route], PrM.kind ⟨#[97, 100, 100]⟩ 85 [.num 7 2147483647, .num 6 1125899906842624, .hash 6, .num 10 2147483647, .route], PrM.any, PrM.eq (.func (.func 73) #[] #[]), PrM.part (.num 7 2147483647), PrM.part (.hash 8), PrM.parts [.num 7 2147483647, .hash 8], PrM.kind ⟨#[112, 97, 121]⟩ 73 [.num 7 2147483647, .hash 8], PrM.any, PrM.eq (.func (.func 74) #[] #[]), PrM.part (.num 7 2147483647), PrM.part (.num 11 2147483647), PrM.parts [.num 7 2147483647, .num 11 2147483647], PrM.kind ⟨#[102, 97, 105, 108]⟩ 74 [.num 7 2147483647, .num 11 2147483647], PrM.any, PrM.eq (.func (.func 73) #[] #[]), PrM.part (.num 8 2147483647), PrM.part (.hash 7), PrM.parts [.num 8 2147483647, .hash 7], PrM.kind ⟨#[99, 111, 109, 109, 105, 116]⟩ 73 [.num 8 2147483647, .hash 7], PrM.any, PrM.eq (.func (.func 73) #[] #[]), PrM.part (.num 8 2147483647), PrM.part (.hash 8), PrM.part (.hash 4), PrM.parts [.num 8 2147483647, .hash 8, .hash 4], PrM.kind ⟨#[114, 101, 118, 111, 107, 101]⟩ 73 [.num 8 2147483647, .hash 8, .hash 4], PrM.any, PrM.eq (.func (.func 73) #[] #[]), PrM.part (.num 8 2147483647), PrM.part (.num 7 2147483647), PrM.parts [.num 8 2147483647, .num 7 2147483647], PrM.kind ⟨#[97, 103, 97, 105, 110]⟩ 73 [.num 8 2147483647, .num 7 2147483647], PrM.any, PrM.eq (.func (.func 73) #[] #[]), PrM.kind ⟨#[99, 108, 111, 115, 101]⟩ 73 [], PrM.any, PrM.eq (.func (.func 73) #[] #[]), PrM.part (.num 6 1125899906842624), PrM.part (.hash 7), PrM.parts [.num 6 1125899906842624, .hash 7], PrM.kind ⟨#[111, 102, 102, 101, 114]⟩ 73 [.num 6 1125899906842624, .hash 7], PrM.any, PrM.eq (.func (.func 74) #[] #[]), PrM.part (.num 11 2147483647), PrM.parts [.num 11 2147483647], PrM.kind ⟨#[101, 114, 114, 111, 114]⟩ 74 [.num 11 2147483647], PrM.any, PrM.any]
theorem kVs_ins (i : Nat) (k : Int) (j : Nat) (h : insK i = some (k, j)) (v : Value) (W : World) : VofM kVs i v W := by
  unfold insK at h
  split at h
  all_goals first | exact trivial | cases h
def kName (k : Int) : ByteArray := if k = 1 then ⟨#[111, 112, 101, 110]⟩ else if k = 2 then ⟨#[97, 99, 99, 101, 112, 116]⟩ else if k = 3 then ⟨#[102, 117, 110, 100]⟩ else if k = 4 then ⟨#[116, 97, 107, 101]⟩ else if k = 5 then ⟨#[114, 101, 97, 100, 121]⟩ else if k = 6 then ⟨#[97, 100, 100]⟩ else if k = 7 then ⟨#[112, 97, 121]⟩ else if k = 8 then ⟨#[102, 97, 105, 108]⟩ else if k = 9 then ⟨#[99, 111, 109, 109, 105, 116]⟩ else if k = 10 then ⟨#[114, 101, 118, 111, 107, 101]⟩ else if k = 11 then ⟨#[97, 103, 97, 105, 110]⟩ else if k = 12 then ⟨#[99, 108, 111, 115, 101]⟩ else if k = 13 then ⟨#[111, 102, 102, 101, 114]⟩ else if k = 14 then ⟨#[101, 114, 114, 111, 114]⟩ else ⟨#[]⟩
def kRight (k : Int) : FuncId := if k = 1 then 76 else if k = 2 then 73 else if k = 3 then 84 else if k = 4 then 73 else if k = 5 then 73 else if k = 6 then 85 else if k = 7 then 73 else if k = 8 then 74 else if k = 9 then 73 else if k = 10 then 73 else if k = 11 then 73 else if k = 12 then 73 else if k = 13 then 73 else if k = 14 then 74 else 73
def KindsAt (W : World) (m : Nat) : Prop := ∃ φ, MapHas W m φ ∧ (∀ k v, φ k v → isKind k = true ∧ KindV W (kName k) (kRight k) (flds k) v) ∧ ∀ k, isKind k = true → ∃ v, φ k v
theorem kinds_of {W : World} {m : Nat} {xs : Nat → Value} (hM : MapHas W m (InsPhi insK (fun j => decide (j < 88)) xs)) (hx : ∀ j, j < 88 → VofM kVs j (xs j) W) : KindsAt W m := by
  refine ⟨_, hM, ?_, ?_⟩
  · rintro k v ⟨i, j, hi, _, rfl⟩
    unfold insK at hi
    split at hi
    · cases hi; exact ⟨rfl, hx 11 (by decide)⟩
    · cases hi; exact ⟨rfl, hx 18 (by decide)⟩
    · cases hi; exact ⟨rfl, hx 24 (by decide)⟩
    · cases hi; exact ⟨rfl, hx 29 (by decide)⟩
    · cases hi; exact ⟨rfl, hx 32 (by decide)⟩
    · cases hi; exact ⟨rfl, hx 40 (by decide)⟩
    · cases hi; exact ⟨rfl, hx 46 (by decide)⟩
    · cases hi; exact ⟨rfl, hx 52 (by decide)⟩
    · cases hi; exact ⟨rfl, hx 58 (by decide)⟩
    · cases hi; exact ⟨rfl, hx 65 (by decide)⟩
    · cases hi; exact ⟨rfl, hx 71 (by decide)⟩
    · cases hi; exact ⟨rfl, hx 74 (by decide)⟩
    · cases hi; exact ⟨rfl, hx 80 (by decide)⟩
    · cases hi; exact ⟨rfl, hx 85 (by decide)⟩
    · cases hi
  · intro k hk
    simp only [isKind, Bool.and_eq_true, decide_eq_true_eq] at hk
    obtain ⟨h1, h2⟩ := hk
    by_cases e1 : k = 1
    · subst e1; exact ⟨_, 12, 11, rfl, rfl, rfl⟩
    by_cases e2 : k = 2
    · subst e2; exact ⟨_, 19, 18, rfl, rfl, rfl⟩
    by_cases e3 : k = 3
    · subst e3; exact ⟨_, 25, 24, rfl, rfl, rfl⟩
    by_cases e4 : k = 4
    · subst e4; exact ⟨_, 30, 29, rfl, rfl, rfl⟩
    by_cases e5 : k = 5
    · subst e5; exact ⟨_, 33, 32, rfl, rfl, rfl⟩
    by_cases e6 : k = 6
    · subst e6; exact ⟨_, 41, 40, rfl, rfl, rfl⟩
    by_cases e7 : k = 7
    · subst e7; exact ⟨_, 47, 46, rfl, rfl, rfl⟩
    by_cases e8 : k = 8
    · subst e8; exact ⟨_, 53, 52, rfl, rfl, rfl⟩
    by_cases e9 : k = 9
    · subst e9; exact ⟨_, 59, 58, rfl, rfl, rfl⟩
    by_cases e10 : k = 10
    · subst e10; exact ⟨_, 66, 65, rfl, rfl, rfl⟩
    by_cases e11 : k = 11
    · subst e11; exact ⟨_, 72, 71, rfl, rfl, rfl⟩
    by_cases e12 : k = 12
    · subst e12; exact ⟨_, 75, 74, rfl, rfl, rfl⟩
    by_cases e13 : k = 13
    · subst e13; exact ⟨_, 81, 80, rfl, rfl, rfl⟩
    by_cases e14 : k = 14
    · subst e14; exact ⟨_, 86, 85, rfl, rfl, rfl⟩
    omega
set_option maxRecDepth 100000 in
set_option maxHeartbeats 8000000 in
theorem kinds_any (w : World) : Calls Tryz.prog 26 #[] w fun e w' => ∃ m, e = .returned (.map (some m)) ∧ KindsAt w' m ∧ Below w.heap.size w w' ∧ w.heap.size ≤ m := by
  have hb0 := Later.refl w
  go_enter Tryz.func26, Tryz.ntmps26
  go_upto_region 1 with fail
  have hc := mnumber_any 6 1125899906842624 w (by decide) (by decide)
  go_upto_region 2 with (first
    | (go_at_call 61; refine hc.mono ?_; clear hc; rintro e w1 ⟨v, rfl, hL1, cs, rfl, hp⟩; obtain ⟨W1, hst, q1, hL⟩ := newPart w1 hp)
    | (with_reducible refine wpList_alloc rfl 78 rfl (allocPart _) ?_)
    | (guard_target =~ wpList _ _ _ (_ :: _) _ _; refine wpList_store rfl 78 (.tmp 1) (.tmp 13) rfl (.pointer (some ⟨w1.heap.size, 0, none⟩)) (.agg cs) rfl rfl hst ?_)
    | fail)
  have hL := hL1.step hL
  obtain ⟨p1, hp1⟩ : ∃ p, p = w1.heap.size := ⟨_, rfl⟩
  rw [← hp1] at q1 ⊢
  have hb1 := hb0.step hL
  clear hst hp1 hL1 hp hL
  have hc := mnumber_any 7 2147483647 W1 (by decide) (by decide)
  go_upto_region 3 with (first
    | (go_at_call 61; refine hc.mono ?_; clear hc; rintro e w2 ⟨v, rfl, hL2, cs, rfl, hp⟩; obtain ⟨W2, hst, q2, hL⟩ := newPart w2 hp)
    | (with_reducible refine wpList_alloc rfl 78 rfl (allocPart _) ?_)
    | (guard_target =~ wpList _ _ _ (_ :: _) _ _; refine wpList_store rfl 78 (.tmp 2) (.tmp 14) rfl (.pointer (some ⟨w2.heap.size, 0, none⟩)) (.agg cs) rfl rfl hst ?_)
    | fail)
  have hL := hL2.step hL
  obtain ⟨p2, hp2⟩ : ∃ p, p = w2.heap.size := ⟨_, rfl⟩
  rw [← hp2] at q2 ⊢
  have q1 := q1.later hL
  have hb2 := hb1.step hL
  clear hst hp2 hL2 hp hL
  have hc := mnumber_any 8 2147483647 W2 (by decide) (by decide)
  go_upto_region 4 with (first
    | (go_at_call 61; refine hc.mono ?_; clear hc; rintro e w3 ⟨v, rfl, hL3, cs, rfl, hp⟩; obtain ⟨W3, hst, q3, hL⟩ := newPart w3 hp)
    | (with_reducible refine wpList_alloc rfl 78 rfl (allocPart _) ?_)
    | (guard_target =~ wpList _ _ _ (_ :: _) _ _; refine wpList_store rfl 78 (.tmp 3) (.tmp 15) rfl (.pointer (some ⟨w3.heap.size, 0, none⟩)) (.agg cs) rfl rfl hst ?_)
    | fail)
  have hL := hL3.step hL
  obtain ⟨p3, hp3⟩ : ∃ p, p = w3.heap.size := ⟨_, rfl⟩
  rw [← hp3] at q3 ⊢
  have q1 := q1.later hL
  have q2 := q2.later hL
  have hb3 := hb2.step hL
  clear hst hp3 hL3 hp hL
  have hc := mnumber_any 9 2147483647 W3 (by decide) (by decide)
  go_upto_region 5 with (first
    | (go_at_call 61; refine hc.mono ?_; clear hc; rintro e w4 ⟨v, rfl, hL4, cs, rfl, hp⟩; obtain ⟨W4, hst, q4, hL⟩ := newPart w4 hp)
    | (with_reducible refine wpList_alloc rfl 78 rfl (allocPart _) ?_)
    | (guard_target =~ wpList _ _ _ (_ :: _) _ _; refine wpList_store rfl 78 (.tmp 4) (.tmp 16) rfl (.pointer (some ⟨w4.heap.size, 0, none⟩)) (.agg cs) rfl rfl hst ?_)
    | fail)
  have hL := hL4.step hL
  obtain ⟨p4, hp4⟩ : ∃ p, p = w4.heap.size := ⟨_, rfl⟩
  rw [← hp4] at q4 ⊢
  have q1 := q1.later hL
  have q2 := q2.later hL
  have q3 := q3.later hL
  have hb4 := hb3.step hL
  clear hst hp4 hL4 hp hL
  have hc := mnumber_any 11 2147483647 W4 (by decide) (by decide)
  go_upto_region 6 with (first
    | (go_at_call 61; refine hc.mono ?_; clear hc; rintro e w5 ⟨v, rfl, hL5, cs, rfl, hp⟩; obtain ⟨W5, hst, q5, hL⟩ := newPart w5 hp)
    | (with_reducible refine wpList_alloc rfl 78 rfl (allocPart _) ?_)
    | (guard_target =~ wpList _ _ _ (_ :: _) _ _; refine wpList_store rfl 78 (.tmp 5) (.tmp 17) rfl (.pointer (some ⟨w5.heap.size, 0, none⟩)) (.agg cs) rfl rfl hst ?_)
    | fail)
  have hL := hL5.step hL
  obtain ⟨p5, hp5⟩ : ∃ p, p = w5.heap.size := ⟨_, rfl⟩
  rw [← hp5] at q5 ⊢
  have q1 := q1.later hL
  have q2 := q2.later hL
  have q3 := q3.later hL
  have q4 := q4.later hL
  have hb5 := hb4.step hL
  clear hst hp5 hL5 hp hL
  have hc := mhash_any 3 W5 (by decide)
  go_upto_region 7 with (first
    | (go_at_call 67; refine hc.mono ?_; clear hc; rintro e w6 ⟨v, rfl, hL6, cs, rfl, hp⟩; obtain ⟨W6, hst, q6, hL⟩ := newPart w6 hp)
    | (with_reducible refine wpList_alloc rfl 78 rfl (allocPart _) ?_)
    | (guard_target =~ wpList _ _ _ (_ :: _) _ _; refine wpList_store rfl 78 (.tmp 6) (.tmp 18) rfl (.pointer (some ⟨w6.heap.size, 0, none⟩)) (.agg cs) rfl rfl hst ?_)
    | fail)
  have hL := hL6.step hL
  obtain ⟨p6, hp6⟩ : ∃ p, p = w6.heap.size := ⟨_, rfl⟩
  rw [← hp6] at q6 ⊢
  have q1 := q1.later hL
  have q2 := q2.later hL
  have q3 := q3.later hL
  have q4 := q4.later hL
  have q5 := q5.later hL
  have hb6 := hb5.step hL
  clear hst hp6 hL6 hp hL
  have hc := mhash_any 4 W6 (by decide)
  go_upto_region 8 with (first
    | (go_at_call 67; refine hc.mono ?_; clear hc; rintro e w7 ⟨v, rfl, hL7, cs, rfl, hp⟩; obtain ⟨W7, hst, q7, hL⟩ := newPart w7 hp)
    | (with_reducible refine wpList_alloc rfl 78 rfl (allocPart _) ?_)
    | (guard_target =~ wpList _ _ _ (_ :: _) _ _; refine wpList_store rfl 78 (.tmp 7) (.tmp 19) rfl (.pointer (some ⟨w7.heap.size, 0, none⟩)) (.agg cs) rfl rfl hst ?_)
    | fail)
  have hL := hL7.step hL
  obtain ⟨p7, hp7⟩ : ∃ p, p = w7.heap.size := ⟨_, rfl⟩
  rw [← hp7] at q7 ⊢
  have q1 := q1.later hL
  have q2 := q2.later hL
  have q3 := q3.later hL
  have q4 := q4.later hL
  have q5 := q5.later hL
  have q6 := q6.later hL
  have hb7 := hb6.step hL
  clear hst hp7 hL7 hp hL
  have hc := mhash_any 7 W7 (by decide)
  go_upto_region 9 with (first
    | (go_at_call 67; refine hc.mono ?_; clear hc; rintro e w8 ⟨v, rfl, hL8, cs, rfl, hp⟩; obtain ⟨W8, hst, q8, hL⟩ := newPart w8 hp)
    | (with_reducible refine wpList_alloc rfl 78 rfl (allocPart _) ?_)
    | (guard_target =~ wpList _ _ _ (_ :: _) _ _; refine wpList_store rfl 78 (.tmp 8) (.tmp 20) rfl (.pointer (some ⟨w8.heap.size, 0, none⟩)) (.agg cs) rfl rfl hst ?_)
    | fail)
  have hL := hL8.step hL
  obtain ⟨p8, hp8⟩ : ∃ p, p = w8.heap.size := ⟨_, rfl⟩
  rw [← hp8] at q8 ⊢
  have q1 := q1.later hL
  have q2 := q2.later hL
  have q3 := q3.later hL
  have q4 := q4.later hL
  have q5 := q5.later hL
  have q6 := q6.later hL
  have q7 := q7.later hL
  have hb8 := hb7.step hL
  clear hst hp8 hL8 hp hL
  have hc := mhash_any 8 W8 (by decide)
  go_upto_region 10 with (first
    | (go_at_call 67; refine hc.mono ?_; clear hc; rintro e w9 ⟨v, rfl, hL9, cs, rfl, hp⟩; obtain ⟨W9, hst, q9, hL⟩ := newPart w9 hp)
    | (with_reducible refine wpList_alloc rfl 78 rfl (allocPart _) ?_)
    | (guard_target =~ wpList _ _ _ (_ :: _) _ _; refine wpList_store rfl 78 (.tmp 9) (.tmp 21) rfl (.pointer (some ⟨w9.heap.size, 0, none⟩)) (.agg cs) rfl rfl hst ?_)
    | fail)
  have hL := hL9.step hL
  obtain ⟨p9, hp9⟩ : ∃ p, p = w9.heap.size := ⟨_, rfl⟩
  rw [← hp9] at q9 ⊢
  have q1 := q1.later hL
  have q2 := q2.later hL
  have q3 := q3.later hL
  have q4 := q4.later hL
  have q5 := q5.later hL
  have q6 := q6.later hL
  have q7 := q7.later hL
  have q8 := q8.later hL
  have hb9 := hb8.step hL
  clear hst hp9 hL9 hp hL
  have hc := mhash_any 6 W9 (by decide)
  go_upto_region 11 with (first
    | (go_at_call 67; refine hc.mono ?_; clear hc; rintro e w10 ⟨v, rfl, hL10, cs, rfl, hp⟩; obtain ⟨W10, hst, q10, hL⟩ := newPart w10 hp)
    | (with_reducible refine wpList_alloc rfl 78 rfl (allocPart _) ?_)
    | (guard_target =~ wpList _ _ _ (_ :: _) _ _; refine wpList_store rfl 78 (.tmp 10) (.tmp 22) rfl (.pointer (some ⟨w10.heap.size, 0, none⟩)) (.agg cs) rfl rfl hst ?_)
    | fail)
  have hL := hL10.step hL
  obtain ⟨p10, hp10⟩ : ∃ p, p = w10.heap.size := ⟨_, rfl⟩
  rw [← hp10] at q10 ⊢
  have q1 := q1.later hL
  have q2 := q2.later hL
  have q3 := q3.later hL
  have q4 := q4.later hL
  have q5 := q5.later hL
  have q6 := q6.later hL
  have q7 := q7.later hL
  have q8 := q8.later hL
  have q9 := q9.later hL
  have hb10 := hb9.step hL
  clear hst hp10 hL10 hp hL
  go_upto_region 13 with fail
  unfold List.append
  repeat rw [app_cons]
  rw [app_nil]
  refine (wpIn_wide (n := 0)).1 ?_
  refine wpIn_region_map wide_wide Tryz.underlying72 Tryz.underlying22 (VofM kVs) (VofM.st kVs) insK insK_inj rfl kVs_ins (fun _ _ => trivial) 87 (by decide) rfl (fun _ _ => trivial) (by kernel_rfl) (by kernel_rfl) (by kernel_rfl) (by kernel_rfl) (by kernel_rfl) (by kernel_rfl) rfl ⟨?_, ?_, ?_, ?_, ?_, ?_, ?_, ?_, ?_, ?_, ?_, ?_, ?_, ?_, ?_, ?_, ?_, ?_, ?_, ?_, ?_, ?_, ?_, ?_, ?_, ?_, ?_, ?_, ?_, ?_, ?_, ?_, ?_, ?_, ?_, ?_, ?_, ?_, ?_, ?_, ?_, ?_, ?_, ?_, ?_, ?_, ?_, ?_, ?_, ?_, ?_, ?_, ?_, ?_, ?_, ?_, ?_, ?_, ?_, ?_, ?_, ?_, ?_, ?_, ?_, ?_, ?_, ?_, ?_, ?_, ?_, ?_, ?_, ?_, ?_, ?_, ?_, ?_, ?_, ?_, ?_, ?_, ?_, ?_, ?_, ?_, ?_, ?_, trivial⟩ ?_ (by decide) insK_lt (by decide)
  · exact stepM_make rfl rfl rfl
  · exact stepM_plain rfl (by decide) (by decide) fun a W hB he => stepOk_want rfl (op_callF (vs := #[.int .i64 1125899906842624, .func (.func (nFn 1)) #[] #[]]) rfl (by simp only [List.map_toArray, List.map_cons, List.map_nil]; rfl) (enters_of Tryz.func61 (by kernel_rfl) rfl) (mnumber_any 1 1125899906842624 W (by decide) (by decide)))
  · exact stepM_plain rfl (by decide) (by decide) fun a W hB he => stepOk_want rfl (op_callF (vs := #[.int .i64 2147483647, .func (.func (nFn 2)) #[] #[]]) rfl (by simp only [List.map_toArray, List.map_cons, List.map_nil]; rfl) (enters_of Tryz.func61 (by kernel_rfl) rfl) (mnumber_any 2 2147483647 W (by decide) (by decide)))
  · exact stepM_plain rfl (by decide) (by decide) fun a W hB he => stepOk_want rfl (op_callF (vs := #[.int .i64 2147483647, .func (.func (nFn 3)) #[] #[]]) rfl (by simp only [List.map_toArray, List.map_cons, List.map_nil]; rfl) (enters_of Tryz.func61 (by kernel_rfl) rfl) (mnumber_any 3 2147483647 W (by decide) (by decide)))
  · exact stepM_plain rfl (by decide) (by decide) fun a W hB he => stepOk_want rfl (op_callF (vs := #[.int .i64 2147483647, .func (.func (nFn 4)) #[] #[]]) rfl (by simp only [List.map_toArray, List.map_cons, List.map_nil]; rfl) (enters_of Tryz.func61 (by kernel_rfl) rfl) (mnumber_any 4 2147483647 W (by decide) (by decide)))
  · exact stepM_plain rfl (by decide) (by decide) fun a W hB he => stepOk_want rfl (op_callF (vs := #[.func (.func (hFn 1)) #[] #[]]) rfl (by simp only [List.map_toArray, List.map_cons, List.map_nil]; rfl) (enters_of Tryz.func67 (by kernel_rfl) rfl) (mhash_any 1 W (by decide)))
  · exact stepM_plain rfl (by decide) (by decide) fun a W hB he => stepOk_want rfl (op_callF (vs := #[.int .i64 1125899906842624, .func (.func (nFn 5)) #[] #[]]) rfl (by simp only [List.map_toArray, List.map_cons, List.map_nil]; rfl) (enters_of Tryz.func61 (by kernel_rfl) rfl) (mnumber_any 5 1125899906842624 W (by decide) (by decide)))
  · exact stepM_plain rfl (by decide) (by decide) fun a W hB he => stepOk_want rfl (op_loadPart rfl (he.keep (.tmp 1) (by kernel_rfl)) q1 hB)
  · exact stepM_plain rfl (by decide) (by decide) fun a W hB he => stepOk_want rfl (op_loadPart rfl (he.keep (.tmp 6) (by kernel_rfl)) q6 hB)
  · exact stepM_plain rfl (by decide) (by decide) fun a W hB he => stepOk_want rfl (op_loadPart rfl (he.keep (.tmp 7) (by kernel_rfl)) q7 hB)
  · refine stepM_plain rfl (by decide) (by decide) fun a W hB he => stepOk_want rfl ?_; obtain ⟨W1, hr, hL, hR⟩ := parts9 (.num 1 1125899906842624) (.num 2 2147483647) (.num 3 2147483647) (.num 4 2147483647) (.hash 1) (.num 5 1125899906842624) (.num 6 1125899906842624) (.hash 3) (.hash 4) (a.eval (.tmp 24)) (a.eval (.tmp 25)) (a.eval (.tmp 26)) (a.eval (.tmp 27)) (a.eval (.tmp 28)) (a.eval (.tmp 29)) (a.eval (.tmp 30)) (a.eval (.tmp 31)) (a.eval (.tmp 32)) W (show (PrM.part (.num 1 1125899906842624)).R (a.eval (.tmp 24)) W from (he.get 1 24 (by kernel_rfl) rfl)) (show (PrM.part (.num 2 2147483647)).R (a.eval (.tmp 25)) W from (he.get 2 25 (by kernel_rfl) rfl)) (show (PrM.part (.num 3 2147483647)).R (a.eval (.tmp 26)) W from (he.get 3 26 (by kernel_rfl) rfl)) (show (PrM.part (.num 4 2147483647)).R (a.eval (.tmp 27)) W from (he.get 4 27 (by kernel_rfl) rfl)) (show (PrM.part (.hash 1)).R (a.eval (.tmp 28)) W from (he.get 5 28 (by kernel_rfl) rfl)) (show (PrM.part (.num 5 1125899906842624)).R (a.eval (.tmp 29)) W from (he.get 6 29 (by kernel_rfl) rfl)) (show (PrM.part (.num 6 1125899906842624)).R (a.eval (.tmp 30)) W from (he.get 7 30 (by kernel_rfl) rfl)) (show (PrM.part (.hash 3)).R (a.eval (.tmp 31)) W from (he.get 8 31 (by kernel_rfl) rfl)) (show (PrM.part (.hash 4)).R (a.eval (.tmp 32)) W from (he.get 9 32 (by kernel_rfl) rfl)); exact op_buildSlice rfl (by simp only [List.map_toArray, List.map_cons, List.map_nil]) hr hL hR
  · refine stepM_plain rfl (by decide) (by decide) fun a W hB he => stepOk_want rfl ?_; obtain ⟨b, e2, hP⟩ : ∃ b, a.eval (.tmp 33) = .slice (some ⟨b, 0, none⟩) 9 9 ∧ RdP W (some ⟨b, 0, none⟩) [.num 1 1125899906842624, .num 2 2147483647, .num 3 2147483647, .num 4 2147483647, .hash 1, .num 5 1125899906842624, .num 6 1125899906842624, .hash 3, .hash 4] := (he.get 10 33 (by kernel_rfl) rfl); exact op_callF (vs := #[.string ⟨#[111, 112, 101, 110]⟩, .func (.func 76) #[] #[], .slice (some ⟨b, 0, none⟩) 9 9]) rfl (by simp only [List.map_toArray, List.map_cons, List.map_nil, e2, (show a.eval (.const (.string ⟨#[111, 112, 101, 110]⟩)) = .string ⟨#[111, 112, 101, 110]⟩ from rfl), (show a.eval (.func 76) = .func (.func 76) #[] #[] from rfl)]) (enters_of Tryz.func75 (by kernel_rfl) rfl) (mof_kind ⟨#[111, 112, 101, 110]⟩ 76 [.num 1 1125899906842624, .num 2 2147483647, .num 3 2147483647, .num 4 2147483647, .hash 1, .num 5 1125899906842624, .num 6 1125899906842624, .hash 3, .hash 4] (some ⟨b, 0, none⟩) W hP)
  · exact stepM_ins rfl rfl (by kernel_rfl) (by kernel_rfl) rfl rfl rfl
  · exact stepM_plain rfl (by decide) (by decide) fun a W hB he => stepOk_want rfl (op_move rfl (he.keep (.tmp 11) (by kernel_rfl)))
  · exact stepM_plain rfl (by decide) (by decide) fun a W hB he => stepOk_want rfl (op_callF (vs := #[.func (.func (hFn 5)) #[] #[]]) rfl (by simp only [List.map_toArray, List.map_cons, List.map_nil]; rfl) (enters_of Tryz.func67 (by kernel_rfl) rfl) (mhash_any 5 W (by decide)))
  · exact stepM_plain rfl (by decide) (by decide) fun a W hB he => stepOk_want rfl (op_loadPart rfl (he.keep (.tmp 6) (by kernel_rfl)) q6 hB)
  · exact stepM_plain rfl (by decide) (by decide) fun a W hB he => stepOk_want rfl (op_loadPart rfl (he.keep (.tmp 7) (by kernel_rfl)) q7 hB)
  · refine stepM_plain rfl (by decide) (by decide) fun a W hB he => stepOk_want rfl ?_; obtain ⟨W1, hr, hL, hR⟩ := parts3 (.hash 5) (.hash 3) (.hash 4) (a.eval (.tmp 36)) (a.eval (.tmp 37)) (a.eval (.tmp 38)) W (show (PrM.part (.hash 5)).R (a.eval (.tmp 36)) W from (he.get 14 36 (by kernel_rfl) rfl)) (show (PrM.part (.hash 3)).R (a.eval (.tmp 37)) W from (he.get 15 37 (by kernel_rfl) rfl)) (show (PrM.part (.hash 4)).R (a.eval (.tmp 38)) W from (he.get 16 38 (by kernel_rfl) rfl)); exact op_buildSlice rfl (by simp only [List.map_toArray, List.map_cons, List.map_nil]) hr hL hR
  · refine stepM_plain rfl (by decide) (by decide) fun a W hB he => stepOk_want rfl ?_; have e1 : a.eval (.tmp 35) = .func (.func 73) #[] #[] := (he.get 13 35 (by kernel_rfl) rfl); obtain ⟨b, e2, hP⟩ : ∃ b, a.eval (.tmp 39) = .slice (some ⟨b, 0, none⟩) 3 3 ∧ RdP W (some ⟨b, 0, none⟩) [.hash 5, .hash 3, .hash 4] := (he.get 17 39 (by kernel_rfl) rfl); exact op_callF (vs := #[.string ⟨#[97, 99, 99, 101, 112, 116]⟩, .func (.func 73) #[] #[], .slice (some ⟨b, 0, none⟩) 3 3]) rfl (by simp only [List.map_toArray, List.map_cons, List.map_nil, e1, e2, (show a.eval (.const (.string ⟨#[97, 99, 99, 101, 112, 116]⟩)) = .string ⟨#[97, 99, 99, 101, 112, 116]⟩ from rfl)]) (enters_of Tryz.func75 (by kernel_rfl) rfl) (mof_kind ⟨#[97, 99, 99, 101, 112, 116]⟩ 73 [.hash 5, .hash 3, .hash 4] (some ⟨b, 0, none⟩) W hP)
  · exact stepM_ins rfl rfl (by kernel_rfl) (by kernel_rfl) rfl rfl rfl
  · exact stepM_plain rfl (by decide) (by decide) fun a W hB he => stepOk_want rfl (op_loadPart rfl (he.keep (.tmp 10) (by kernel_rfl)) q10 hB)
  · exact stepM_plain rfl (by decide) (by decide) fun a W hB he => stepOk_want rfl (op_loadPart rfl (he.keep (.tmp 4) (by kernel_rfl)) q4 hB)
  · exact stepM_plain rfl (by decide) (by decide) fun a W hB he => stepOk_want rfl (op_loadPart rfl (he.keep (.tmp 8) (by kernel_rfl)) q8 hB)
  · refine stepM_plain rfl (by decide) (by decide) fun a W hB he => stepOk_want rfl ?_; obtain ⟨W1, hr, hL, hR⟩ := parts3 (.hash 6) (.num 9 2147483647) (.hash 7) (a.eval (.tmp 41)) (a.eval (.tmp 42)) (a.eval (.tmp 43)) W (show (PrM.part (.hash 6)).R (a.eval (.tmp 41)) W from (he.get 20 41 (by kernel_rfl) rfl)) (show (PrM.part (.num 9 2147483647)).R (a.eval (.tmp 42)) W from (he.get 21 42 (by kernel_rfl) rfl)) (show (PrM.part (.hash 7)).R (a.eval (.tmp 43)) W from (he.get 22 43 (by kernel_rfl) rfl)); exact op_buildSlice rfl (by simp only [List.map_toArray, List.map_cons, List.map_nil]) hr hL hR
  · refine stepM_plain rfl (by decide) (by decide) fun a W hB he => stepOk_want rfl ?_; obtain ⟨b, e2, hP⟩ : ∃ b, a.eval (.tmp 44) = .slice (some ⟨b, 0, none⟩) 3 3 ∧ RdP W (some ⟨b, 0, none⟩) [.hash 6, .num 9 2147483647, .hash 7] := (he.get 23 44 (by kernel_rfl) rfl); exact op_callF (vs := #[.string ⟨#[102, 117, 110, 100]⟩, .func (.func 84) #[] #[], .slice (some ⟨b, 0, none⟩) 3 3]) rfl (by simp only [List.map_toArray, List.map_cons, List.map_nil, e2, (show a.eval (.const (.string ⟨#[102, 117, 110, 100]⟩)) = .string ⟨#[102, 117, 110, 100]⟩ from rfl), (show a.eval (.func 84) = .func (.func 84) #[] #[] from rfl)]) (enters_of Tryz.func75 (by kernel_rfl) rfl) (mof_kind ⟨#[102, 117, 110, 100]⟩ 84 [.hash 6, .num 9 2147483647, .hash 7] (some ⟨b, 0, none⟩) W hP)
  · exact stepM_ins rfl rfl (by kernel_rfl) (by kernel_rfl) rfl rfl rfl
  · exact stepM_plain rfl (by decide) (by decide) fun a W hB he => stepOk_want rfl (op_move rfl (he.keep (.tmp 11) (by kernel_rfl)))
  · exact stepM_plain rfl (by decide) (by decide) fun a W hB he => stepOk_want rfl (op_loadPart rfl (he.keep (.tmp 8) (by kernel_rfl)) q8 hB)
  · refine stepM_plain rfl (by decide) (by decide) fun a W hB he => stepOk_want rfl ?_; obtain ⟨W1, hr, hL, hR⟩ := parts1 (.hash 7) (a.eval (.tmp 47)) W (show (PrM.part (.hash 7)).R (a.eval (.tmp 47)) W from (he.get 27 47 (by kernel_rfl) rfl)); exact op_buildSlice rfl (by simp only [List.map_toArray, List.map_cons, List.map_nil]) hr hL hR
  · refine stepM_plain rfl (by decide) (by decide) fun a W hB he => stepOk_want rfl ?_; have e1 : a.eval (.tmp 46) = .func (.func 73) #[] #[] := (he.get 26 46 (by kernel_rfl) rfl); obtain ⟨b, e2, hP⟩ : ∃ b, a.eval (.tmp 48) = .slice (some ⟨b, 0, none⟩) 1 1 ∧ RdP W (some ⟨b, 0, none⟩) [.hash 7] := (he.get 28 48 (by kernel_rfl) rfl); exact op_callF (vs := #[.string ⟨#[116, 97, 107, 101]⟩, .func (.func 73) #[] #[], .slice (some ⟨b, 0, none⟩) 1 1]) rfl (by simp only [List.map_toArray, List.map_cons, List.map_nil, e1, e2, (show a.eval (.const (.string ⟨#[116, 97, 107, 101]⟩)) = .string ⟨#[116, 97, 107, 101]⟩ from rfl)]) (enters_of Tryz.func75 (by kernel_rfl) rfl) (mof_kind ⟨#[116, 97, 107, 101]⟩ 73 [.hash 7] (some ⟨b, 0, none⟩) W hP)
  · exact stepM_ins rfl rfl (by kernel_rfl) (by kernel_rfl) rfl rfl rfl
  · exact stepM_plain rfl (by decide) (by decide) fun a W hB he => stepOk_want rfl (op_move rfl (he.keep (.tmp 11) (by kernel_rfl)))
  · refine stepM_plain rfl (by decide) (by decide) fun a W hB he => stepOk_want rfl ?_; have e1 : a.eval (.tmp 50) = .func (.func 73) #[] #[] := (he.get 31 50 (by kernel_rfl) rfl); exact op_callF (vs := #[.string ⟨#[114, 101, 97, 100, 121]⟩, .func (.func 73) #[] #[], .slice none 0 0]) rfl (by simp only [List.map_toArray, List.map_cons, List.map_nil, e1, (show a.eval (.const (.string ⟨#[114, 101, 97, 100, 121]⟩)) = .string ⟨#[114, 101, 97, 100, 121]⟩ from rfl), (show a.eval (.const (.slice none 0 0)) = .slice none 0 0 from rfl)]) (enters_of Tryz.func75 (by kernel_rfl) rfl) (mof_kind ⟨#[114, 101, 97, 100, 121]⟩ 73 [] none W (fun h => absurd rfl h))
  · exact stepM_ins rfl rfl (by kernel_rfl) (by kernel_rfl) rfl rfl rfl
  · exact stepM_plain rfl (by decide) (by decide) fun a W hB he => stepOk_want rfl (op_loadPart rfl (he.keep (.tmp 2) (by kernel_rfl)) q2 hB)
  · exact stepM_plain rfl (by decide) (by decide) fun a W hB he => stepOk_want rfl (op_loadPart rfl (he.keep (.tmp 1) (by kernel_rfl)) q1 hB)
  · exact stepM_plain rfl (by decide) (by decide) fun a W hB he => stepOk_want rfl (op_loadPart rfl (he.keep (.tmp 10) (by kernel_rfl)) q10 hB)
  · exact stepM_plain rfl (by decide) (by decide) fun a W hB he => stepOk_want rfl (op_callF (vs := #[.int .i64 2147483647, .func (.func (nFn 10)) #[] #[]]) rfl (by simp only [List.map_toArray, List.map_cons, List.map_nil]; rfl) (enters_of Tryz.func61 (by kernel_rfl) rfl) (mnumber_any 10 2147483647 W (by decide) (by decide)))
  · exact stepM_plain rfl (by decide) (by decide) fun a W hB he => stepOk_want rfl (op_callF (vs := #[]) rfl (by simp only [List.map_toArray, List.map_nil]) (enters_of Tryz.func87 (by kernel_rfl) rfl) (mroute_part W))
  · refine stepM_plain rfl (by decide) (by decide) fun a W hB he => stepOk_want rfl ?_; obtain ⟨W1, hr, hL, hR⟩ := parts5 (.num 7 2147483647) (.num 6 1125899906842624) (.hash 6) (.num 10 2147483647) (.route) (a.eval (.tmp 52)) (a.eval (.tmp 53)) (a.eval (.tmp 54)) (a.eval (.tmp 55)) (a.eval (.tmp 56)) W (show (PrM.part (.num 7 2147483647)).R (a.eval (.tmp 52)) W from (he.get 34 52 (by kernel_rfl) rfl)) (show (PrM.part (.num 6 1125899906842624)).R (a.eval (.tmp 53)) W from (he.get 35 53 (by kernel_rfl) rfl)) (show (PrM.part (.hash 6)).R (a.eval (.tmp 54)) W from (he.get 36 54 (by kernel_rfl) rfl)) (show (PrM.part (.num 10 2147483647)).R (a.eval (.tmp 55)) W from (he.get 37 55 (by kernel_rfl) rfl)) (show (PrM.part (.route)).R (a.eval (.tmp 56)) W from (he.get 38 56 (by kernel_rfl) rfl)); exact op_buildSlice rfl (by simp only [List.map_toArray, List.map_cons, List.map_nil]) hr hL hR
  · refine stepM_plain rfl (by decide) (by decide) fun a W hB he => stepOk_want rfl ?_; obtain ⟨b, e2, hP⟩ : ∃ b, a.eval (.tmp 57) = .slice (some ⟨b, 0, none⟩) 5 5 ∧ RdP W (some ⟨b, 0, none⟩) [.num 7 2147483647, .num 6 1125899906842624, .hash 6, .num 10 2147483647, .route] := (he.get 39 57 (by kernel_rfl) rfl); exact op_callF (vs := #[.string ⟨#[97, 100, 100]⟩, .func (.func 85) #[] #[], .slice (some ⟨b, 0, none⟩) 5 5]) rfl (by simp only [List.map_toArray, List.map_cons, List.map_nil, e2, (show a.eval (.const (.string ⟨#[97, 100, 100]⟩)) = .string ⟨#[97, 100, 100]⟩ from rfl), (show a.eval (.func 85) = .func (.func 85) #[] #[] from rfl)]) (enters_of Tryz.func75 (by kernel_rfl) rfl) (mof_kind ⟨#[97, 100, 100]⟩ 85 [.num 7 2147483647, .num 6 1125899906842624, .hash 6, .num 10 2147483647, .route] (some ⟨b, 0, none⟩) W hP)
  · exact stepM_ins rfl rfl (by kernel_rfl) (by kernel_rfl) rfl rfl rfl
  · exact stepM_plain rfl (by decide) (by decide) fun a W hB he => stepOk_want rfl (op_move rfl (he.keep (.tmp 11) (by kernel_rfl)))
  · exact stepM_plain rfl (by decide) (by decide) fun a W hB he => stepOk_want rfl (op_loadPart rfl (he.keep (.tmp 2) (by kernel_rfl)) q2 hB)
  · exact stepM_plain rfl (by decide) (by decide) fun a W hB he => stepOk_want rfl (op_loadPart rfl (he.keep (.tmp 9) (by kernel_rfl)) q9 hB)
  · refine stepM_plain rfl (by decide) (by decide) fun a W hB he => stepOk_want rfl ?_; obtain ⟨W1, hr, hL, hR⟩ := parts2 (.num 7 2147483647) (.hash 8) (a.eval (.tmp 60)) (a.eval (.tmp 61)) W (show (PrM.part (.num 7 2147483647)).R (a.eval (.tmp 60)) W from (he.get 43 60 (by kernel_rfl) rfl)) (show (PrM.part (.hash 8)).R (a.eval (.tmp 61)) W from (he.get 44 61 (by kernel_rfl) rfl)); exact op_buildSlice rfl (by simp only [List.map_toArray, List.map_cons, List.map_nil]) hr hL hR
  · refine stepM_plain rfl (by decide) (by decide) fun a W hB he => stepOk_want rfl ?_; have e1 : a.eval (.tmp 59) = .func (.func 73) #[] #[] := (he.get 42 59 (by kernel_rfl) rfl); obtain ⟨b, e2, hP⟩ : ∃ b, a.eval (.tmp 62) = .slice (some ⟨b, 0, none⟩) 2 2 ∧ RdP W (some ⟨b, 0, none⟩) [.num 7 2147483647, .hash 8] := (he.get 45 62 (by kernel_rfl) rfl); exact op_callF (vs := #[.string ⟨#[112, 97, 121]⟩, .func (.func 73) #[] #[], .slice (some ⟨b, 0, none⟩) 2 2]) rfl (by simp only [List.map_toArray, List.map_cons, List.map_nil, e1, e2, (show a.eval (.const (.string ⟨#[112, 97, 121]⟩)) = .string ⟨#[112, 97, 121]⟩ from rfl)]) (enters_of Tryz.func75 (by kernel_rfl) rfl) (mof_kind ⟨#[112, 97, 121]⟩ 73 [.num 7 2147483647, .hash 8] (some ⟨b, 0, none⟩) W hP)
  · exact stepM_ins rfl rfl (by kernel_rfl) (by kernel_rfl) rfl rfl rfl
  · exact stepM_plain rfl (by decide) (by decide) fun a W hB he => stepOk_want rfl (op_move rfl (he.keep (.tmp 12) (by kernel_rfl)))
  · exact stepM_plain rfl (by decide) (by decide) fun a W hB he => stepOk_want rfl (op_loadPart rfl (he.keep (.tmp 2) (by kernel_rfl)) q2 hB)
  · exact stepM_plain rfl (by decide) (by decide) fun a W hB he => stepOk_want rfl (op_loadPart rfl (he.keep (.tmp 5) (by kernel_rfl)) q5 hB)
  · refine stepM_plain rfl (by decide) (by decide) fun a W hB he => stepOk_want rfl ?_; obtain ⟨W1, hr, hL, hR⟩ := parts2 (.num 7 2147483647) (.num 11 2147483647) (a.eval (.tmp 65)) (a.eval (.tmp 66)) W (show (PrM.part (.num 7 2147483647)).R (a.eval (.tmp 65)) W from (he.get 49 65 (by kernel_rfl) rfl)) (show (PrM.part (.num 11 2147483647)).R (a.eval (.tmp 66)) W from (he.get 50 66 (by kernel_rfl) rfl)); exact op_buildSlice rfl (by simp only [List.map_toArray, List.map_cons, List.map_nil]) hr hL hR
  · refine stepM_plain rfl (by decide) (by decide) fun a W hB he => stepOk_want rfl ?_; have e1 : a.eval (.tmp 64) = .func (.func 74) #[] #[] := (he.get 48 64 (by kernel_rfl) rfl); obtain ⟨b, e2, hP⟩ : ∃ b, a.eval (.tmp 67) = .slice (some ⟨b, 0, none⟩) 2 2 ∧ RdP W (some ⟨b, 0, none⟩) [.num 7 2147483647, .num 11 2147483647] := (he.get 51 67 (by kernel_rfl) rfl); exact op_callF (vs := #[.string ⟨#[102, 97, 105, 108]⟩, .func (.func 74) #[] #[], .slice (some ⟨b, 0, none⟩) 2 2]) rfl (by simp only [List.map_toArray, List.map_cons, List.map_nil, e1, e2, (show a.eval (.const (.string ⟨#[102, 97, 105, 108]⟩)) = .string ⟨#[102, 97, 105, 108]⟩ from rfl)]) (enters_of Tryz.func75 (by kernel_rfl) rfl) (mof_kind ⟨#[102, 97, 105, 108]⟩ 74 [.num 7 2147483647, .num 11 2147483647] (some ⟨b, 0, none⟩) W hP)
  · exact stepM_ins rfl rfl (by kernel_rfl) (by kernel_rfl) rfl rfl rfl
  · exact stepM_plain rfl (by decide) (by decide) fun a W hB he => stepOk_want rfl (op_move rfl (he.keep (.tmp 11) (by kernel_rfl)))
  · exact stepM_plain rfl (by decide) (by decide) fun a W hB he => stepOk_want rfl (op_loadPart rfl (he.keep (.tmp 3) (by kernel_rfl)) q3 hB)
  · exact stepM_plain rfl (by decide) (by decide) fun a W hB he => stepOk_want rfl (op_loadPart rfl (he.keep (.tmp 8) (by kernel_rfl)) q8 hB)
  · refine stepM_plain rfl (by decide) (by decide) fun a W hB he => stepOk_want rfl ?_; obtain ⟨W1, hr, hL, hR⟩ := parts2 (.num 8 2147483647) (.hash 7) (a.eval (.tmp 70)) (a.eval (.tmp 71)) W (show (PrM.part (.num 8 2147483647)).R (a.eval (.tmp 70)) W from (he.get 55 70 (by kernel_rfl) rfl)) (show (PrM.part (.hash 7)).R (a.eval (.tmp 71)) W from (he.get 56 71 (by kernel_rfl) rfl)); exact op_buildSlice rfl (by simp only [List.map_toArray, List.map_cons, List.map_nil]) hr hL hR
  · refine stepM_plain rfl (by decide) (by decide) fun a W hB he => stepOk_want rfl ?_; have e1 : a.eval (.tmp 69) = .func (.func 73) #[] #[] := (he.get 54 69 (by kernel_rfl) rfl); obtain ⟨b, e2, hP⟩ : ∃ b, a.eval (.tmp 72) = .slice (some ⟨b, 0, none⟩) 2 2 ∧ RdP W (some ⟨b, 0, none⟩) [.num 8 2147483647, .hash 7] := (he.get 57 72 (by kernel_rfl) rfl); exact op_callF (vs := #[.string ⟨#[99, 111, 109, 109, 105, 116]⟩, .func (.func 73) #[] #[], .slice (some ⟨b, 0, none⟩) 2 2]) rfl (by simp only [List.map_toArray, List.map_cons, List.map_nil, e1, e2, (show a.eval (.const (.string ⟨#[99, 111, 109, 109, 105, 116]⟩)) = .string ⟨#[99, 111, 109, 109, 105, 116]⟩ from rfl)]) (enters_of Tryz.func75 (by kernel_rfl) rfl) (mof_kind ⟨#[99, 111, 109, 109, 105, 116]⟩ 73 [.num 8 2147483647, .hash 7] (some ⟨b, 0, none⟩) W hP)
  · exact stepM_ins rfl rfl (by kernel_rfl) (by kernel_rfl) rfl rfl rfl
  · exact stepM_plain rfl (by decide) (by decide) fun a W hB he => stepOk_want rfl (op_move rfl (he.keep (.tmp 11) (by kernel_rfl)))
  · exact stepM_plain rfl (by decide) (by decide) fun a W hB he => stepOk_want rfl (op_loadPart rfl (he.keep (.tmp 3) (by kernel_rfl)) q3 hB)
  · exact stepM_plain rfl (by decide) (by decide) fun a W hB he => stepOk_want rfl (op_loadPart rfl (he.keep (.tmp 9) (by kernel_rfl)) q9 hB)
  · exact stepM_plain rfl (by decide) (by decide) fun a W hB he => stepOk_want rfl (op_loadPart rfl (he.keep (.tmp 7) (by kernel_rfl)) q7 hB)
  · refine stepM_plain rfl (by decide) (by decide) fun a W hB he => stepOk_want rfl ?_; obtain ⟨W1, hr, hL, hR⟩ := parts3 (.num 8 2147483647) (.hash 8) (.hash 4) (a.eval (.tmp 75)) (a.eval (.tmp 76)) (a.eval (.tmp 77)) W (show (PrM.part (.num 8 2147483647)).R (a.eval (.tmp 75)) W from (he.get 61 75 (by kernel_rfl) rfl)) (show (PrM.part (.hash 8)).R (a.eval (.tmp 76)) W from (he.get 62 76 (by kernel_rfl) rfl)) (show (PrM.part (.hash 4)).R (a.eval (.tmp 77)) W from (he.get 63 77 (by kernel_rfl) rfl)); exact op_buildSlice rfl (by simp only [List.map_toArray, List.map_cons, List.map_nil]) hr hL hR
  · refine stepM_plain rfl (by decide) (by decide) fun a W hB he => stepOk_want rfl ?_; have e1 : a.eval (.tmp 74) = .func (.func 73) #[] #[] := (he.get 60 74 (by kernel_rfl) rfl); obtain ⟨b, e2, hP⟩ : ∃ b, a.eval (.tmp 78) = .slice (some ⟨b, 0, none⟩) 3 3 ∧ RdP W (some ⟨b, 0, none⟩) [.num 8 2147483647, .hash 8, .hash 4] := (he.get 64 78 (by kernel_rfl) rfl); exact op_callF (vs := #[.string ⟨#[114, 101, 118, 111, 107, 101]⟩, .func (.func 73) #[] #[], .slice (some ⟨b, 0, none⟩) 3 3]) rfl (by simp only [List.map_toArray, List.map_cons, List.map_nil, e1, e2, (show a.eval (.const (.string ⟨#[114, 101, 118, 111, 107, 101]⟩)) = .string ⟨#[114, 101, 118, 111, 107, 101]⟩ from rfl)]) (enters_of Tryz.func75 (by kernel_rfl) rfl) (mof_kind ⟨#[114, 101, 118, 111, 107, 101]⟩ 73 [.num 8 2147483647, .hash 8, .hash 4] (some ⟨b, 0, none⟩) W hP)
  · exact stepM_ins rfl rfl (by kernel_rfl) (by kernel_rfl) rfl rfl rfl
  · exact stepM_plain rfl (by decide) (by decide) fun a W hB he => stepOk_want rfl (op_move rfl (he.keep (.tmp 11) (by kernel_rfl)))
  · exact stepM_plain rfl (by decide) (by decide) fun a W hB he => stepOk_want rfl (op_loadPart rfl (he.keep (.tmp 3) (by kernel_rfl)) q3 hB)
  · exact stepM_plain rfl (by decide) (by decide) fun a W hB he => stepOk_want rfl (op_loadPart rfl (he.keep (.tmp 2) (by kernel_rfl)) q2 hB)
  · refine stepM_plain rfl (by decide) (by decide) fun a W hB he => stepOk_want rfl ?_; obtain ⟨W1, hr, hL, hR⟩ := parts2 (.num 8 2147483647) (.num 7 2147483647) (a.eval (.tmp 81)) (a.eval (.tmp 82)) W (show (PrM.part (.num 8 2147483647)).R (a.eval (.tmp 81)) W from (he.get 68 81 (by kernel_rfl) rfl)) (show (PrM.part (.num 7 2147483647)).R (a.eval (.tmp 82)) W from (he.get 69 82 (by kernel_rfl) rfl)); exact op_buildSlice rfl (by simp only [List.map_toArray, List.map_cons, List.map_nil]) hr hL hR
  · refine stepM_plain rfl (by decide) (by decide) fun a W hB he => stepOk_want rfl ?_; have e1 : a.eval (.tmp 80) = .func (.func 73) #[] #[] := (he.get 67 80 (by kernel_rfl) rfl); obtain ⟨b, e2, hP⟩ : ∃ b, a.eval (.tmp 83) = .slice (some ⟨b, 0, none⟩) 2 2 ∧ RdP W (some ⟨b, 0, none⟩) [.num 8 2147483647, .num 7 2147483647] := (he.get 70 83 (by kernel_rfl) rfl); exact op_callF (vs := #[.string ⟨#[97, 103, 97, 105, 110]⟩, .func (.func 73) #[] #[], .slice (some ⟨b, 0, none⟩) 2 2]) rfl (by simp only [List.map_toArray, List.map_cons, List.map_nil, e1, e2, (show a.eval (.const (.string ⟨#[97, 103, 97, 105, 110]⟩)) = .string ⟨#[97, 103, 97, 105, 110]⟩ from rfl)]) (enters_of Tryz.func75 (by kernel_rfl) rfl) (mof_kind ⟨#[97, 103, 97, 105, 110]⟩ 73 [.num 8 2147483647, .num 7 2147483647] (some ⟨b, 0, none⟩) W hP)
  · exact stepM_ins rfl rfl (by kernel_rfl) (by kernel_rfl) rfl rfl rfl
  · exact stepM_plain rfl (by decide) (by decide) fun a W hB he => stepOk_want rfl (op_move rfl (he.keep (.tmp 11) (by kernel_rfl)))
  · refine stepM_plain rfl (by decide) (by decide) fun a W hB he => stepOk_want rfl ?_; have e1 : a.eval (.tmp 85) = .func (.func 73) #[] #[] := (he.get 73 85 (by kernel_rfl) rfl); exact op_callF (vs := #[.string ⟨#[99, 108, 111, 115, 101]⟩, .func (.func 73) #[] #[], .slice none 0 0]) rfl (by simp only [List.map_toArray, List.map_cons, List.map_nil, e1, (show a.eval (.const (.string ⟨#[99, 108, 111, 115, 101]⟩)) = .string ⟨#[99, 108, 111, 115, 101]⟩ from rfl), (show a.eval (.const (.slice none 0 0)) = .slice none 0 0 from rfl)]) (enters_of Tryz.func75 (by kernel_rfl) rfl) (mof_kind ⟨#[99, 108, 111, 115, 101]⟩ 73 [] none W (fun h => absurd rfl h))
  · exact stepM_ins rfl rfl (by kernel_rfl) (by kernel_rfl) rfl rfl rfl
  · exact stepM_plain rfl (by decide) (by decide) fun a W hB he => stepOk_want rfl (op_move rfl (he.keep (.tmp 11) (by kernel_rfl)))
  · exact stepM_plain rfl (by decide) (by decide) fun a W hB he => stepOk_want rfl (op_loadPart rfl (he.keep (.tmp 1) (by kernel_rfl)) q1 hB)
  · exact stepM_plain rfl (by decide) (by decide) fun a W hB he => stepOk_want rfl (op_loadPart rfl (he.keep (.tmp 8) (by kernel_rfl)) q8 hB)
  · refine stepM_plain rfl (by decide) (by decide) fun a W hB he => stepOk_want rfl ?_; obtain ⟨W1, hr, hL, hR⟩ := parts2 (.num 6 1125899906842624) (.hash 7) (a.eval (.tmp 88)) (a.eval (.tmp 89)) W (show (PrM.part (.num 6 1125899906842624)).R (a.eval (.tmp 88)) W from (he.get 77 88 (by kernel_rfl) rfl)) (show (PrM.part (.hash 7)).R (a.eval (.tmp 89)) W from (he.get 78 89 (by kernel_rfl) rfl)); exact op_buildSlice rfl (by simp only [List.map_toArray, List.map_cons, List.map_nil]) hr hL hR
  · refine stepM_plain rfl (by decide) (by decide) fun a W hB he => stepOk_want rfl ?_; have e1 : a.eval (.tmp 87) = .func (.func 73) #[] #[] := (he.get 76 87 (by kernel_rfl) rfl); obtain ⟨b, e2, hP⟩ : ∃ b, a.eval (.tmp 90) = .slice (some ⟨b, 0, none⟩) 2 2 ∧ RdP W (some ⟨b, 0, none⟩) [.num 6 1125899906842624, .hash 7] := (he.get 79 90 (by kernel_rfl) rfl); exact op_callF (vs := #[.string ⟨#[111, 102, 102, 101, 114]⟩, .func (.func 73) #[] #[], .slice (some ⟨b, 0, none⟩) 2 2]) rfl (by simp only [List.map_toArray, List.map_cons, List.map_nil, e1, e2, (show a.eval (.const (.string ⟨#[111, 102, 102, 101, 114]⟩)) = .string ⟨#[111, 102, 102, 101, 114]⟩ from rfl)]) (enters_of Tryz.func75 (by kernel_rfl) rfl) (mof_kind ⟨#[111, 102, 102, 101, 114]⟩ 73 [.num 6 1125899906842624, .hash 7] (some ⟨b, 0, none⟩) W hP)
  · exact stepM_ins rfl rfl (by kernel_rfl) (by kernel_rfl) rfl rfl rfl
  · exact stepM_plain rfl (by decide) (by decide) fun a W hB he => stepOk_want rfl (op_move rfl (he.keep (.tmp 12) (by kernel_rfl)))
  · exact stepM_plain rfl (by decide) (by decide) fun a W hB he => stepOk_want rfl (op_loadPart rfl (he.keep (.tmp 5) (by kernel_rfl)) q5 hB)
  · refine stepM_plain rfl (by decide) (by decide) fun a W hB he => stepOk_want rfl ?_; obtain ⟨W1, hr, hL, hR⟩ := parts1 (.num 11 2147483647) (a.eval (.tmp 93)) W (show (PrM.part (.num 11 2147483647)).R (a.eval (.tmp 93)) W from (he.get 83 93 (by kernel_rfl) rfl)); exact op_buildSlice rfl (by simp only [List.map_toArray, List.map_cons, List.map_nil]) hr hL hR
  · refine stepM_plain rfl (by decide) (by decide) fun a W hB he => stepOk_want rfl ?_; have e1 : a.eval (.tmp 92) = .func (.func 74) #[] #[] := (he.get 82 92 (by kernel_rfl) rfl); obtain ⟨b, e2, hP⟩ : ∃ b, a.eval (.tmp 94) = .slice (some ⟨b, 0, none⟩) 1 1 ∧ RdP W (some ⟨b, 0, none⟩) [.num 11 2147483647] := (he.get 84 94 (by kernel_rfl) rfl); exact op_callF (vs := #[.string ⟨#[101, 114, 114, 111, 114]⟩, .func (.func 74) #[] #[], .slice (some ⟨b, 0, none⟩) 1 1]) rfl (by simp only [List.map_toArray, List.map_cons, List.map_nil, e1, e2, (show a.eval (.const (.string ⟨#[101, 114, 114, 111, 114]⟩)) = .string ⟨#[101, 114, 114, 111, 114]⟩ from rfl)]) (enters_of Tryz.func75 (by kernel_rfl) rfl) (mof_kind ⟨#[101, 114, 114, 111, 114]⟩ 74 [.num 11 2147483647] (some ⟨b, 0, none⟩) W hP)
  · exact stepM_ins rfl rfl (by kernel_rfl) (by kernel_rfl) rfl rfl rfl
  · exact stepM_copy rfl (by decide) rfl (by kernel_rfl) rfl rfl
  · intro xs W m hB hm h0 hcp hM hx hk hg
    have e87 := hg 87 96 (by decide) (by kernel_rfl)
    rw [hcp] at e87
    refine last_assign rfl e87 ?_
    simp only [initL, lastL, putL, Nat.reduceAdd, Act.put, List.setIfInBounds_toArray, List.set_cons_succ, List.set_cons_zero]
    have hK : KindsAt W m := kinds_of hM hx
    clear hx hk hg e87 hM h0 hcp
    go_wp2_with fail
    go_ret
    exact ⟨m, rfl, hK, hb10.step hB, Nat.le_trans hb10.size hm⟩
end Go.Proofs.YtcajhdmppfiaeaaGreat
namespace Go.Proofs.YtcajhdmppfiaeaaGreat
open Go.RowKit Ms
theorem buildZ (w : World) : (Instr.build 24 #[]).run Tryz.prog w = .ok (.agg (hC z32)) w := by kernel_rfl
set_option maxRecDepth 100000 in
theorem zeroN_any (g j bt : Nat) (s : Said) (w : World) (hs : s.wf) (h1 : 1 ≤ j) (h2 : j ≤ 11) (hr : Row w g 29 (saidC s)) (hb : Row w bt 128 #[.func (.func (nFn j)) #[] #[]]) :
    Calls Tryz.prog 115 #[.pointer (some ⟨g, 0, none⟩), .pointer (some ⟨bt, 0, none⟩)] w fun e w' => e = .returned (.tuple #[]) ∧ Row w' g 29 (saidC (s.setN j 0)) ∧ w.grownBy w' (some g) := by
  have c1 : w.cell? ⟨bt, 0, none⟩ = some (.func (.func (nFn j)) #[] #[]) := (hb.cell 0).trans rfl
  obtain ⟨hst, hr2⟩ := storeSaidN hs hr j (by omega) 0
  have hg := grown_set w g (offN j) (.int .i64 0)
  have hc := nfn_any g j w h1 h2
  have HR := Lib.hid hr2
  have HG := Lib.hid hg
  clear hr2 hg hr hb
  go_enter Tryz.func115, Tryz.ntmps115
  go_wp2_with (first
    | (guard_target =~ wpList _ _ _ (_ :: _) _ _; refine wpList_callV rfl (.tmp 3) #[.tmp 4] _ rfl (f := nFn j) (bound := #[]) (vs := #[.pointer (some ⟨g, 0, none⟩)]) rfl (by simp only [List.map_toArray, List.map_cons, List.map_nil]; rfl) (nfn_enters j) rfl ?_; refine hc.mono ?_; clear hc; rintro e w1 ⟨rfl, hw1⟩; refine .inl ⟨_, rfl, ?_⟩; subst hw1)
    | (guard_target =~ wpList _ _ _ (_ :: _) _ _; refine wpList_store rfl 2 (.tmp 6) (.const (.int .i64 0)) rfl _ _ rfl rfl hst ?_)
    | fail)
  go_end0
  exact ⟨rfl, HR.out, HG.out⟩
set_option maxRecDepth 100000 in
theorem zeroH_any (g j bt : Nat) (s : Said) (w : World) (hs : s.wf) (hj : okH j = true) (hr : Row w g 29 (saidC s)) (hb : Row w bt 131 #[.func (.func (hFn j)) #[] #[]]) :
    Calls Tryz.prog 120 #[.pointer (some ⟨g, 0, none⟩), .pointer (some ⟨bt, 0, none⟩)] w fun e w' => e = .returned (.tuple #[]) ∧ Row w' g 29 (saidC (s.setH j z32)) ∧ w.grownBy w' (some g) := by
  have c1 : w.cell? ⟨bt, 0, none⟩ = some (.func (.func (hFn j)) #[] #[]) := (hb.cell 0).trans rfl
  obtain ⟨w2, hst, hr2, hg⟩ := storeSaidH hs hr j (okH_lt hj) z32 z32_len
  have hc := hfn_any g j w hj
  have HR := Lib.hid hr2
  have HG := Lib.hid hg
  clear hr2 hg hr hb
  go_enter Tryz.func120, Tryz.ntmps120
  go_wp2_with (first
    | (guard_target =~ wpList _ _ _ (_ :: _) _ _; refine wpList_callV rfl (.tmp 3) #[.tmp 4] _ rfl (f := hFn j) (bound := #[]) (vs := #[.pointer (some ⟨g, 0, none⟩)]) rfl (by simp only [List.map_toArray, List.map_cons, List.map_nil]; rfl) (hfn_enters j) rfl ?_; refine hc.mono ?_; clear hc; rintro e w1 ⟨rfl, hw1⟩; refine .inl ⟨_, rfl, ?_⟩; subst hw1)
    | (guard_target =~ wpList _ _ _ (_ :: _) _ _; refine wpList_build rfl 24 _ rfl #[] rfl (buildZ _) ?_)
    | (guard_target =~ wpList _ _ _ (_ :: _) _ _; refine wpList_store rfl 24 (.tmp 7) (.tmp 6) rfl (.pointer (some ⟨g, offH j, none⟩)) (.agg (hC z32)) rfl rfl hst ?_)
    | fail)
  go_end0
  exact ⟨rfl, HR.out, HG.out⟩
set_option maxRecDepth 100000 in
theorem zeroR_any (g : Nat) (s : Said) (w : World) (hs : s.wf) (hr : Row w g 29 (saidC s)) :
    Calls Tryz.prog 126 #[.pointer (some ⟨g, 0, none⟩)] w fun e w' => e = .returned (.tuple #[]) ∧ Row w' g 29 (saidC (s.setR [])) ∧ w.grownBy w' (some g) := by
  obtain ⟨hst, hr2⟩ := storeSaidR hs hr []
  have hg := grown_set w g 301 (.string ⟨([] : List UInt8).toArray⟩)
  have HR := Lib.hid hr2
  have HG := Lib.hid hg
  clear hr2 hg hr
  go_enter Tryz.func126, Tryz.ntmps126
  go_wp2_with (first
    | (guard_target =~ wpList _ _ _ (_ :: _) _ _; refine wpList_store rfl 9 (.tmp 4) _ rfl (.pointer (some ⟨g, 301, none⟩)) _ rfl rfl hst ?_)
    | fail)
  go_end0
  exact ⟨rfl, HR.out, HG.out⟩
theorem zero_any (f : Fld) (cs : Array Value) (g : Nat) (s : Said) (w : World) (hs : s.wf) (hp : PartC w cs f) (hr : Row w g 29 (saidC s)) :
    ∃ F caps, cs[2]? = some (.func (.func F) #[] caps) ∧ (∀ args w, (callFunc F args).run Tryz.prog w = .ok (.enter F args) w) ∧ Calls Tryz.prog F (#[.pointer (some ⟨g, 0, none⟩)] ++ caps) w fun e w' => e = .returned (.tuple #[]) ∧ Row w' g 29 (saidC (zero1 s f)) ∧ w.grownBy w' (some g) := by
  cases f with
  | num j m =>
    obtain ⟨h1, h2, bm, bt, rfl, r1, r2⟩ := hp
    exact ⟨_, _, rfl, enters_of Tryz.func115 (by kernel_rfl) rfl, zeroN_any g j bt s w hs h1 h2 hr r2⟩
  | hash j =>
    obtain ⟨h1, bt, rfl, r1⟩ := hp
    exact ⟨_, _, rfl, enters_of Tryz.func120 (by kernel_rfl) rfl, zeroH_any g j bt s w hs h1 hr r1⟩
  | route =>
    obtain rfl : cs = partR := hp
    exact ⟨_, _, rfl, enters_of Tryz.func126 (by kernel_rfl) rfl, zeroR_any g s w hs hr⟩
theorem zero1_wf {s : Said} (h : s.wf) (f : Fld) : (zero1 s f).wf := by
  cases f with
  | num j m => exact Said.setN_wf h j 0
  | hash j => exact Said.setH_wf h j _ z32_len
  | route => exact Said.setR_wf h []
end Go.Proofs.YtcajhdmppfiaeaaGreat
