/- Joined texts: Rb7. -/
import Derived.Test.YtloiaaolnfimgaaGreatRc4
import Derived.WalkKit
import Derived.WalkSpells
import Derived.Deep.MidRow
import Derived.Deep.WholeRow
import Derived.Deep.Draws
import Derived.Maps.AppendAt
import Derived.Lib.Hide
import Derived.OwnWalk
import Derived.Laws.IdiomStrings
import Derived.Lib.SlBytesConst
import Derived.Orders
import Derived.Shelf.Abstract
import Derived.OrdersIn
import Derived.RangeFuncCalls
import Derived.RangeFuncNested
import Derived.RangeFuncBound
import Derived.RangeFuncLeaves
import Derived.Shelf.RegionOpen
import Derived.OwnWalkIn
import Derived.TacticsInMore
import Derived.LoopNIn
import Derived.LoopIn
import Derived.WalkMore
import Derived.Test.YtloiaaolnfimgaaGreatRows
import Derived.ProofKit
import Derived.OpenShut
import Derived.Deep.Slices
import Derived.Deep.Matrix
import Derived.WalkLawsBesides
import Derived.BigRegion
import Derived.BigQuiet
import Derived.Lib.AppendZeros
import Derived.Laws.BitsAllLaws
import Derived.IntWalk
import Derived.Laws.CopyOwn
import Derived.Outline
import Derived.Deep.RegionWith
import Derived.Deep.RegionHeld3
import Derived.Laws.EntriesVeiled
import Derived.Deep.DeepCutAuto
import Derived.StillTailTactics
import Derived.Deep.QuietTactic
import Derived.Stop.BytesEq
import Derived.ShutString
import Derived.ChangeOld
import Derived.Lib.ConvBytes
import Derived.Recover
import Derived.Defers
import Derived.Deep.Cut
import Derived.Maps.OwnOps
import Derived.Lib.QuoteBits
import Derived.Lib.AppendStr
import Derived.Deep.Grids
import Derived.Lib.LaidTab
import Derived.ScopeJumps
import Derived.Deep.SlicePairs
import Derived.Lib.SmallJoins
set_option linter.unusedVariables false
set_option linter.unusedSimpArgs false
namespace Go.Proofs.YtloiaaolnfimgaaGreat
open Go.RowKit Go.ChangeShapes Go.WideShapes Go.ChangeAt
section
variable {H : Type} {enc : TypeId × Value → H} {P : Program} {w : World} {held : Bool}
theorem in_nums {t e : TypeId} {fuel : Nat} {v : Value} {x : DataW H × List MemPlace} (ht : P.underlying t = some (.slice e)) (he : P.underlying e = some (.int .i64)) (hc : P.cellsOf e = 1)
    (h : DataW.trod enc P w 0 (fun _ => true) held fuel t [v] = some x) : ∃ (l : List Int) (A : Option Addr) (c : Nat), v = .slice A l.length c ∧ l.length ≤ c ∧ c ≤ maxLen ∧ RdV w A (l.map numV) := by
  rcases open_ints ht he hc h with ⟨hcs, _⟩ | ⟨ad, len, cap, zs, hcs, _, hl, hm, hz, _, hcell, hwz⟩
  · injection hcs with h1
    subst h1
    exact ⟨[], none, 0, rfl, Nat.le_refl _, Nat.zero_le _, RdV.nil _ _⟩
  · injection hcs with h1
    subst h1
    simp only [if_true] at hz
    have hlen : (zs.take len).length = len := by rw [List.length_take]; omega
    refine ⟨zs.take len, some ad, cap, by rw [hlen], by omega, hm, rdV_of fun i hi => ?_⟩
    have hi' : i < len := by rw [List.length_map, hlen] at hi; exact hi
    have := hcell i (by omega)
    have e : zs.getD i 0 = zs[i]'(by omega) := by simp [List.getD, show i < zs.length by omega]
    rw [this, e]
    simp
end
end Go.Proofs.YtloiaaolnfimgaaGreat
namespace Go.Proofs.YtloiaaolnfimgaaGreat
open Go.RowKit
def bad (most z : Int) : Bool := decide (z < 0) || decide (most < z)
def maxAmt : Int := 1125899906842624
def amts (zs : List Int) : Bool := !zs.any (bad maxAmt)
theorem in1_any (g : Nat) (z most : Int) (w : World) (hg : w.cell? ⟨g, 0, none⟩ = some (.int .i64 most)) :
    Calls Tryz.prog 162 #[.int .i64 z, .pointer (some ⟨g, 0, none⟩)] w fun e w' => e = .returned (.bool (bad most z)) ∧ w = w' := by
  by_cases h : z < 0
  · have e1 : decide (z < 0) = true := decide_eq_true h
    have e2 : bad most z = true := by simp [bad, h]
    rw [e2]
    go_enter Tryz.func162, Tryz.ntmps162
    go_wp2
    go_ret
    exact ⟨rfl, rfl⟩
  · have e1 : decide (z < 0) = false := decide_eq_false h
    have e2 : bad most z = decide (most < z) := by simp [bad, h]
    rw [e2]
    go_enter Tryz.func162, Tryz.ntmps162
    go_wp2
    go_ret
    exact ⟨rfl, rfl⟩
theorem mtake1_any {α : Type} {p : α → Bool} {l : List α} {k : Nat} (hk : k < l.length) : (l.take (k + 1)).any p = ((l.take k).any p || p l[k]) := by
  rw [List.take_add_one, List.getElem?_eq_getElem hk, Option.toList_some, List.any_append, List.any_cons, List.any_nil, Bool.or_false]
theorem any_take {α : Type} {p : α → Bool} {l : List α} {k : Nat} (h : (l.take k).any p = true) : l.any p = true := by
  rw [List.any_eq_true] at h ⊢
  obtain ⟨x, hx, hp⟩ := h
  exact ⟨x, List.mem_of_mem_take hx, hp⟩
set_option maxRecDepth 100000 in
theorem idxFn_any (g : Nat) (most : Int) (A : Option Addr) (n c : Nat) (zs : List Int) (w : World) (hn : zs.length = n) (hm : n ≤ 9223372036854775807) (hr : RdV w A (zs.map numV)) (hg : w.cell? ⟨g, 0, none⟩ = some (.int .i64 most)) :
    Calls Tryz.prog 137 #[.slice A n c, .func (.func 162) #[] #[.pointer (some ⟨g, 0, none⟩)]] w fun e w' => (∃ k : Int, e = .returned (.int .i64 k) ∧ decide (0 ≤ k) = zs.any (bad most)) ∧ w = w' := by
  refine Calls.post fun Φ HΦ => ?_
  have HN := Lib.hid hn
  clear hn
  go_enter Tryz.func137, Tryz.ntmps137
  go_wp2_with fail
  go_loopw [8] (fun t wr => ∃ k : Nat, k ≤ n ∧ t = .int .i64 k ∧ w = wr ∧ (zs.take k).any (bad most) = false) (fun t _ => n - (intOf t).toNat)
  case atStart => exact ⟨0, by omega, rfl, rfl, by simp⟩
  case round =>
    obtain ⟨k, hk, rfl, rfl, hany⟩ := hrel
    by_cases hlt : k < n
    · have hd : decide ((k : Int) < (n : Int)) = true := decide_eq_true (by omega)
      have hd' : decide (k < n) = true := decide_eq_true hlt
      have hkl : k < zs.length := by rw [HN.out]; exact hlt
      obtain ⟨b, o, rfl, hc⟩ := hr.at_ (k := k) (by simpa using hkl)
      rw [List.getElem_map] at hc
      obtain ⟨z, hz⟩ : ∃ z, zs[k] = z := ⟨_, rfl⟩
      have htk := mtake1_any (p := bad most) hkl
      rw [hany, hz, Bool.false_or] at htk
      rw [hz] at hc
      cases hb : bad most z with
      | true =>
        rw [hb] at htk
        have hyes := any_take htk
        clear hany htk hz
        go_wp2_with (first
          | (go_at_call 162; refine (in1_any g z most w hg).mono ?_; rintro e w' ⟨rfl, rfl⟩; rw [hb])
          | fail)
        exact HΦ.out _ _ ⟨⟨k, rfl, by rw [hyes]; exact decide_eq_true (by omega)⟩, rfl⟩
      | false =>
        rw [hb] at htk
        clear hany hz
        go_wp2_with (first
          | (go_at_call 162; refine (in1_any g z most w hg).mono ?_; rintro e w' ⟨rfl, rfl⟩; rw [hb])
          | fail)
        go_roundw
        case rel => exact ⟨k + 1, by omega, by go_num, (by first | rfl | trivial), htk⟩
        case measure => simp [intOf]; omega
    · obtain rfl : k = n := by omega
      have hd : decide ((k : Int) < (k : Int)) = false := decide_eq_false (by omega)
      have hd' : decide (k < k) = false := decide_eq_false (by omega)
      rw [List.take_of_length_le (by rw [HN.out]; exact Nat.le_refl _)] at hany
      go_wp2_with fail
      exact HΦ.out _ _ ⟨⟨-1, rfl, by rw [hany]; rfl⟩, rfl⟩
theorem mcontainsFn_any (g : Nat) (most : Int) (A : Option Addr) (n c : Nat) (zs : List Int) (w : World) (hn : zs.length = n) (hm : n ≤ 9223372036854775807) (hr : RdV w A (zs.map numV)) (hg : w.cell? ⟨g, 0, none⟩ = some (.int .i64 most)) :
    Calls Tryz.prog 104 #[.slice A n c, .func (.func 162) #[] #[.pointer (some ⟨g, 0, none⟩)]] w fun e w' => e = .returned (.bool (zs.any (bad most))) ∧ w = w' := by
  have hi := idxFn_any g most A n c zs w hn hm hr hg
  go_enter Tryz.func104, Tryz.ntmps104
  go_wp2_with (first
    | (go_at_call 137; refine hi.mono ?_; clear hi; rintro e w' ⟨⟨k, rfl, hk⟩, rfl⟩)
    | fail)
  go_ret
  exact ⟨by rw [← hk]; rfl, rfl⟩
theorem in_any (most : Int) (A : Option Addr) (n c : Nat) (zs : List Int) (w : World) (hn : zs.length = n) (hm : n ≤ 9223372036854775807) (hr : RdV w A (zs.map numV)) :
    Calls Tryz.prog 132 #[.int .i64 most, .slice A n c] w fun e w' => e = .returned (.bool (!zs.any (bad most))) ∧ Below w.heap.size w w' := by
  have hL := (Later.refl w).alloc (.cells #[.int .i64 most] 2)
  have hc := mcontainsFn_any w.heap.size most A n c zs _ hn hm (hr.later hL) (((Row.new w 2 #[.int .i64 most]).cell 0).trans rfl)
  clear hr hn
  go_enter Tryz.func132, Tryz.ntmps132
  go_wp2_with (first
    | (go_at_call 104; refine hc.mono ?_; clear hc; rintro e w' ⟨rfl, rfl⟩)
    | fail)
  go_ret
  exact ⟨rfl, hL⟩
theorem check_any (A : Option Addr) (n c : Nat) (zs : List Int) (w : World) (hn : zs.length = n) (hm : n ≤ 9223372036854775807) (hr : RdV w A (zs.map numV)) :
    Calls Tryz.prog 96 #[.slice A n c] w fun e w' => e = .returned (.int .i64 (if amts zs then 0 else 2)) ∧ Below w.heap.size w w' := by
  have hi := in_any maxAmt A n c zs w hn hm hr
  unfold maxAmt at hi
  unfold amts maxAmt
  clear hr hn
  cases hb : zs.any (bad 1125899906842624) with
  | true =>
    rw [hb] at hi
    go_enter Tryz.func96, Tryz.ntmps96
    go_wp2_with (first
      | (go_at_call 132; refine hi.mono ?_; clear hi; rintro e w' ⟨rfl, hL⟩)
      | fail)
    go_ret
    exact ⟨rfl, hL⟩
  | false =>
    rw [hb] at hi
    go_enter Tryz.func96, Tryz.ntmps96
    go_wp2_with (first
      | (go_at_call 132; refine hi.mono ?_; clear hi; rintro e w' ⟨rfl, hL⟩)
      | fail)
    go_ret
    exact ⟨rfl, hL⟩
theorem num5_any (n : Int) (w : World) : Calls Tryz.prog 11 #[.int .i64 n] w fun e w' => e = .returned (.int .i64 n) ∧ w = w' := by
  go_enter Tryz.func11, Tryz.ntmps11
  go_wp2
  go_ret
  exact ⟨rfl, rfl⟩
theorem right5_any (z : Int) (w : World) : Calls Tryz.prog 50 #[.int .i64 z] w fun e w' => e = .returned (.bool (!bad maxAmt z)) ∧ w = w' := by
  unfold maxAmt
  by_cases h : 0 ≤ z
  · have e1 : decide (0 ≤ z) = true := decide_eq_true h
    have e2 : (!bad 1125899906842624 z) = decide (z ≤ 1125899906842624) := by
      by_cases h2 : z ≤ 1125899906842624
      · have : ¬ z < 0 := by omega
        have : ¬ 1125899906842624 < z := by omega
        simp [bad, *]
      · have : 1125899906842624 < z := by omega
        simp [bad, *]
    rw [e2]
    go_enter Tryz.func50, Tryz.ntmps50
    go_wp2
    go_ret
    exact ⟨rfl, rfl⟩
  · have e1 : decide (0 ≤ z) = false := decide_eq_false h
    have e2 : (!bad 1125899906842624 z) = false := by
      have : z < 0 := by omega
      simp [bad, this]
    rw [e2]
    go_enter Tryz.func50, Tryz.ntmps50
    go_wp2
    go_ret
    exact ⟨rfl, rfl⟩
end Go.Proofs.YtloiaaolnfimgaaGreat
namespace Go.Proofs.YtloiaaolnfimgaaGreat
open Go.RowKit
def OwnZ (w : World) (base : Nat) (v : Value) (zs : List Int) : Prop := w.ownsRow base 2 1 v zs.length (zs.map numV)
theorem OwnZ.at_ {w : World} {base : Nat} {v : Value} {zs : List Int} (h : OwnZ w base v zs) : ∀ k, v.ownBlock = some k → base ≤ k ∧ k < w.heap.size := World.ownsRow.lt h
theorem OwnZ.keep {w w' : World} {base : Nat} {v : Value} {zs : List Int} (h : OwnZ w base v zs) (hk : ∀ b, b < w.heap.size → v.ownBlock = some b → w'.heap[b]? = w.heap[b]?) : OwnZ w' base v zs := by
  obtain ⟨h1, h2⟩ := h
  refine ⟨h1, ?_⟩
  rcases h2 with h2 | ⟨g, cap, cur, e, hb, hh, hr⟩
  · exact .inl h2
  · exact .inr ⟨g, cap, cur, e, hb, (hk g (Array.getElem?_eq_some_iff.1 hh).1 (by rw [e]; rfl)).trans hh, hr⟩
theorem OwnZ.later {w w' : World} {base : Nat} {v : Value} {zs : List Int} (h : OwnZ w base v zs) (hL : Later w w') : OwnZ w' base v zs := h.keep fun b hb _ => Below.block hL b hb
theorem OwnZ.nil (w : World) (base : Nat) : OwnZ w base (.slice none 0 0) [] := ⟨rfl, .inl ⟨rfl, rfl⟩⟩
theorem OwnZ.slice {w : World} {base : Nat} {v : Value} {zs : List Int} (h : OwnZ w base v zs) : ∃ A c, v = .slice A zs.length c ∧ zs.length ≤ c ∧ c ≤ maxLen ∧ RdV w A (zs.map numV) := by
  obtain ⟨h1, h2⟩ := h
  rcases h2 with ⟨rfl, hn⟩ | ⟨g, cap, cur, rfl, hb, hh, hn, hc, hs, ht⟩
  · have : zs = [] := List.eq_nil_of_length_eq_zero hn
    subst this
    exact ⟨none, 0, rfl, Nat.le_refl _, Nat.zero_le _, RdV.nil _ _⟩
  · refine ⟨_, cap, rfl, hn, hc, fun _ => ⟨g, 0, rfl, fun i hi => ?_⟩⟩
    have e := cell_of_row w g (0 + i) cur 2 (0, 0) hh
    have hi' : i < zs.length := by simpa using hi
    rw [e, Nat.zero_add]
    have h3 : (cur.toList.take (zs.length * 1))[i]? = (zs.map numV)[i]? := by rw [ht]
    rw [List.getElem?_take_of_lt (by omega), Array.getElem?_toList] at h3
    rw [h3, List.getElem?_eq_getElem hi]
theorem OwnZ.row {w : World} {g base : Nat} {zs : List Int} (h : Row w g 2 (zs.map numV).toArray) (hb : base ≤ g) (hm : zs.length ≤ maxLen) : OwnZ w base (.slice (some ⟨g, 0, none⟩) zs.length zs.length) zs :=
  ⟨by simp, .inr ⟨g, zs.length, _, rfl, hb, h, Nat.le_refl _, hm, by simp, by simp [List.take_of_length_le]⟩⟩
theorem infoZ : (Tryz.prog.info? 2).map (fun i => (i.zero, i.size, i.bytes)) = some (some (.int .i64 0), 1, 8) := by kernel_rfl
set_option maxRecDepth 100000 in
theorem run_append_ints (w : World) (base : Nat) (ty : TypeId) (v : Value) (l : List Int) (hown : OwnZ w base v l)
    (A : Option Addr) (m c : Nat) (k : List Int) (hm : k.length = m) (hr : RdV w A (k.map numV)) (hlen : l.length + m ≤ 10000000000) (hbase : base ≤ w.heap.size) :
    ∃ v' w', (Builtin.append_ #[101, 101] ty #[v, .slice A m c]).run Tryz.prog w = .ok v' w' ∧ OwnZ w' base v' (l ++ k) ∧ w.grownBy w' v.ownBlock ∧ (v'.ownBlock = v.ownBlock ∨ v'.ownBlock = some w.heap.size) := by
  obtain ⟨i, hi0, he⟩ := Option.map_eq_some_iff.1 infoZ
  injection he with hz he
  injection he with hs hb
  subst hm
  rcases A with _ | ad
  · have hk : k = [] := by
      rcases k with _ | ⟨x, k⟩
      · rfl
      · obtain ⟨b, o, e, _⟩ := hr (by simp)
        cases e
    subst hk
    refine ⟨v, w, ?_, by simpa using hown, ⟨rfl, rfl, rfl, Nat.le_refl _, fun _ _ _ => rfl⟩, .inl rfl⟩
    rcases hown.2 with ⟨rfl, hn⟩ | ⟨g, cap, cur, rfl, _, _, hnc, _⟩
    · simp [Builtin.append_, run_underlying Tryz.underlying101, sizeOf, typeInfo, hi0, Builtin.lenOf, Builtin.firstCells]
    · simp [Builtin.append_, run_underlying Tryz.underlying101, sizeOf, typeInfo, hi0, Builtin.lenOf, Builtin.firstCells, hnc, storeCells]
  · obtain ⟨v', w', h1, h2, h3, _, h5⟩ := run_append_own_at (P := Tryz.prog) w base 101 ty 2 i _ 1 8 Tryz.underlying101 hi0 hz hs hb rfl (by omega) v l.length (l.map numV) hown ad k.length c (k.map numV) (by simp)
      (fun j u hu => by
        rw [List.getElem?_map] at hu
        have hj : j < k.length := by
          rcases Nat.lt_or_ge j k.length with h | h
          · exact h
          · rw [List.getElem?_eq_none h] at hu; cases hu
        rw [List.getElem?_eq_getElem hj] at hu
        obtain ⟨b, o, e, hc⟩ := hr (by intro e; rw [List.map_eq_nil_iff] at e; subst e; simp at hj)
        injection e with e
        subst e
        rw [Option.map_some] at hu
        have hcj := hc j (by simpa using hj)
        rw [List.getElem_map] at hcj
        rw [← hu, ← hcj]
        rcases Nat.eq_zero_or_pos j with rfl | hp
        · rfl
        · simp [Addr.add, Nat.ne_of_gt hp])
      (fun u hu => by obtain ⟨x, _, rfl⟩ := List.mem_map.1 hu; rfl) (by unfold maxLen; omega) (by omega) hbase
    exact ⟨v', w', h1, by unfold OwnZ; rw [List.length_append, List.map_append]; exact h2, h3, h5⟩
set_option maxRecDepth 100000 in
theorem wpList_append_ints {w : World} {ops : Array Oper} {rest : List Oper} {o : Oper} {a : Act} {Q : Exit → Act → World → Prop} (hgd : o.guard = none) (s x : Operand)
    (ho : o.op = .call { callee := .builtin .append, args := #[s, x], argTypes := #[101, 101] }) (base : Nat)
    (v : Value) (l : List Int) (hs : a.eval s = v) (hown : OwnZ w base v l)
    (A : Option Addr) (m c : Nat) (k : List Int) (hx : a.eval x = .slice A m c) (hm : k.length = m) (hr : RdV w A (k.map numV)) (hlen : l.length + m ≤ 10000000000) (hbase : base ≤ w.heap.size)
    (h : ∀ v' w', OwnZ w' base v' (l ++ k) → w.grownBy w' v.ownBlock → (v'.ownBlock = v.ownBlock ∨ v'.ownBlock = some w.heap.size) → wpList Tryz.prog ops Q rest (a.put o.dst v') w') : wpList Tryz.prog ops Q (o :: rest) a w :=
  wpList_plain hgd fun _ hK => by
    obtain ⟨v', w', hr', h2, h3, h4⟩ := run_append_ints w base o.type v l hown A m c k hm hr hlen hbase
    unfold Oper.wp execOp
    simp only [ho, resolve, invoke, builtin, Sem.run_bind, Sem.run_pure, Result.andThen_ok, List.map_toArray, List.map_cons, List.map_nil, hs, hx, hr']
    exact hK _ _ (h v' w' h2 h3 h4)
theorem build1Z (x : Int) (W : World) : (Instr.buildSlice 101 1 #[(0, .int .i64 x)]).run Tryz.prog W = .ok (.slice (some ⟨W.heap.size, 0, none⟩) 1 1) (W.alloc (.cells #[.int .i64 x] 2)) := by kernel_rfl
theorem build2Z (x y : Int) (W : World) : (Instr.buildSlice 101 2 #[(0, .int .i64 x), (1, .int .i64 y)]).run Tryz.prog W = .ok (.slice (some ⟨W.heap.size, 0, none⟩) 2 2) (W.alloc (.cells #[.int .i64 x, .int .i64 y] 2)) := by kernel_rfl
theorem build3Z (x y z : Int) (W : World) : (Instr.buildSlice 101 3 #[(0, .int .i64 x), (1, .int .i64 y), (2, .int .i64 z)]).run Tryz.prog W = .ok (.slice (some ⟨W.heap.size, 0, none⟩) 3 3) (W.alloc (.cells #[.int .i64 x, .int .i64 y, .int .i64 z] 2)) := by kernel_rfl
theorem build0Z (W : World) : (Instr.buildSlice 101 0 #[]).run Tryz.prog W = .ok (.slice (some ⟨W.heap.size, 0, none⟩) 0 0) (W.alloc (.cells #[] 2)) := by kernel_rfl
theorem rd1Z (x : Int) (W : World) : RdV (W.alloc (.cells #[.int .i64 x] 2)) (some ⟨W.heap.size, 0, none⟩) ([x].map numV) := RdV.row (Row.new W 2 _)
theorem rd2Z (x y : Int) (W : World) : RdV (W.alloc (.cells #[.int .i64 x, .int .i64 y] 2)) (some ⟨W.heap.size, 0, none⟩) ([x, y].map numV) := RdV.row (Row.new W 2 _)
theorem rd3Z (x y z : Int) (W : World) : RdV (W.alloc (.cells #[.int .i64 x, .int .i64 y, .int .i64 z] 2)) (some ⟨W.heap.size, 0, none⟩) ([x, y, z].map numV) := RdV.row (Row.new W 2 _)
theorem own1Z (x : Int) (W : World) (base : Nat) (hb : base ≤ W.heap.size) : OwnZ (W.alloc (.cells #[.int .i64 x] 2)) base (.slice (some ⟨W.heap.size, 0, none⟩) 1 1) [x] := OwnZ.row (Row.new W 2 _) hb (Nat.le_of_ble_eq_true rfl)
theorem own0Z (W : World) (base : Nat) (hb : base ≤ W.heap.size) : OwnZ (W.alloc (.cells #[] 2)) base (.slice (some ⟨W.heap.size, 0, none⟩) 0 0) [] := OwnZ.row (Row.new W 2 _) hb (Nat.le_of_ble_eq_true rfl)
end Go.Proofs.YtloiaaolnfimgaaGreat
namespace Go.Proofs.YtloiaaolnfimgaaGreat
open Go.RowKit
theorem amts_mem {zs : List Int} (h : amts zs = true) : ∀ z ∈ zs, 0 ≤ z ∧ z ≤ maxAmt := fun z hz => by
  unfold amts at h
  simp only [Bool.not_eq_true'] at h
  rw [List.any_eq_false] at h
  have := h z hz
  unfold bad at this
  simp at this
  omega
theorem take_sum {zs : List Int} {k : Nat} (hk : k < zs.length) : (zs.take (k + 1)).sum = (zs.take k).sum + zs[k] := by
  rw [List.take_add_one, List.getElem?_eq_getElem hk, Option.toList_some, List.sum_append, List.sum_cons, List.sum_nil, Int.add_zero]
theorem sum_nn : ∀ {zs : List Int}, (∀ z ∈ zs, 0 ≤ z) → 0 ≤ zs.sum
  | [], _ => by simp
  | z :: zs, h => by
    have h1 := h z (by simp)
    have h2 := sum_nn (zs := zs) fun y hy => h y (by simp [hy])
    rw [List.sum_cons]; omega
theorem take_sum_le {zs : List Int} (h : ∀ z ∈ zs, 0 ≤ z) (k : Nat) : 0 ≤ (zs.take k).sum ∧ (zs.take k).sum ≤ zs.sum := by
  have h1 : 0 ≤ (zs.take k).sum := sum_nn fun z hz => h z (List.mem_of_mem_take hz)
  have h2 : 0 ≤ (zs.drop k).sum := sum_nn fun z hz => h z (List.mem_of_mem_drop hz)
  have h3 : (zs.take k ++ zs.drop k).sum = zs.sum := by rw [List.take_append_drop]
  rw [List.sum_append] at h3
  omega
def addS (zs : List Int) : Int × Int := if amts zs then (if maxAmt < zs.sum then (0, 150) else (zs.sum, 0)) else (0, 2)
theorem amts_false {zs : List Int} (h : amts zs = false) : addS zs = (0, 2) := by simp [addS, h]
theorem amts_over {zs : List Int} (h : amts zs = true) (h2 : maxAmt < zs.sum) : addS zs = (0, 150) := by simp [addS, h, h2]
theorem amts_sum {zs : List Int} (h : amts zs = true) (h2 : ¬ maxAmt < zs.sum) : addS zs = (zs.sum, 0) := by simp [addS, h, h2]
set_option maxRecDepth 100000 in
theorem add_any (A : Option Addr) (n c : Nat) (zs : List Int) (w : World) (hn : zs.length = n) (hm : n ≤ 9223372036854775807) (hr : RdV w A (zs.map numV)) :
    Calls Tryz.prog 95 #[.slice A n c] w fun e w' => e = .returned (.tuple #[.int .i64 (addS zs).1, .int .i64 (addS zs).2]) ∧ Below w.heap.size w w' := by
  refine Calls.post fun Φ HΦ => ?_
  have hck := check_any A n c zs w hn hm hr
  have HN := Lib.hid hn
  clear hn
  have hall := fun h : amts zs = true => amts_mem h
  go_enter Tryz.func95, Tryz.ntmps95
  go_wp2_with fail
  refine wp_scope_jumps 0 (fun a' w' => Below w.heap.size w w' ∧ ∃ (e : Int) (u0 u1 u2 u4 u5 u6 u7 u8 u9 u10 u11 u12 u13 u14 u15 u16 u17 u18 u19 u20 u21 u22 u23 : Value), a' = { tmps := #[u0, u1, u2, .int .i64 e, u4, u5, u6, u7, u8, u9, u10, u11, u12, u13, u14, u15, u16, u17, u18, u19, u20, u21, u22, u23], defers := [] } ∧ e = (addS zs).2 ∧ (addS zs).1 = 0) (fun _ _ => 0) rfl ?_ ?_
  · cases ha : amts zs with
    | false =>
      rw [ha] at hck
      have hS := amts_false ha
      go_wp2_with (first
        | (go_at_call 96; refine hck.mono ?_; clear hck; rintro e w1 ⟨rfl, hL⟩)
        | fail)
      go_step3
      exact ⟨rfl, hL, _, _, _, _, _, _, _, _, _, _, _, _, _, _, _, _, _, _, _, _, _, _, _, _, rfl, by rw [hS]; exact ⟨rfl, rfl⟩⟩
    | true =>
      rw [ha] at hck
      have hall := hall ha
      have hsl := fun k => take_sum_le (zs := zs) (fun z hz => (hall z hz).1) k
      have HA := Lib.hid ha
      clear ha
      go_wp2_with (first
        | (go_at_call 96; refine hck.mono ?_; clear hck; rintro e w1 ⟨rfl, hL⟩)
        | fail)
      go_loopw [2, 12] (fun t u wr => ∃ k : Nat, k ≤ n ∧ t = .int .i64 (zs.take k).sum ∧ u = .int .i64 k ∧ w1 = wr ∧ (zs.take k).sum ≤ 1125899906842624) (fun _ u _ => n - (intOf u).toNat)
      case atStart => exact ⟨0, by omega, by simp, rfl, rfl, by simp⟩
      case round =>
        obtain ⟨k, hk, rfl, rfl, rfl, hle⟩ := hrel
        by_cases hlt : k < n
        · have hd : decide ((k : Int) < (n : Int)) = true := decide_eq_true (by omega)
          have hd' : decide (k < n) = true := decide_eq_true hlt
          have hkl : k < zs.length := by rw [HN.out]; exact hlt
          obtain ⟨b, o, rfl, hc⟩ := (hr.later hL).at_ (k := k) (by simpa using hkl)
          rw [List.getElem_map] at hc
          have hz := hall zs[k] (List.getElem_mem hkl)
          have hts := take_sum hkl
          have hs1 := hsl (k + 1)
          have hs0 := hsl k
          obtain ⟨z, hze⟩ : ∃ z, zs[k] = z := ⟨_, rfl⟩
          obtain ⟨S, hSe⟩ : ∃ S, (zs.take k).sum = S := ⟨_, rfl⟩
          obtain ⟨T, hTe⟩ : ∃ T, zs.sum = T := ⟨_, rfl⟩
          rw [hze] at hc hz hts
          rw [hSe] at hts hs0 hle ⊢
          unfold maxAmt at hz
          by_cases hov : 1125899906842624 < S + z
          · have e1 : decide (1125899906842624 < S + z) = true := decide_eq_true hov
            have hA := amts_over HA.out (by unfold maxAmt; omega)
            have hwr := IntWalk.i64_in (S + z) (by omega)
            have HTS := Lib.hid hts
            have HSE := Lib.hid hSe
            clear hts hSe hze hTe hs1 hs0 hsl hall
            go_wp2_with fail
            go_step3
            exact ⟨rfl, hL, _, _, _, _, _, _, _, _, _, _, _, _, _, _, _, _, _, _, _, _, _, _, _, _, rfl, by rw [hA]; exact ⟨rfl, rfl⟩⟩
          · have e1 : decide (1125899906842624 < S + z) = false := decide_eq_false hov
            have hwr := IntWalk.i64_in (S + z) (by omega)
            have HTS := Lib.hid hts
            have HSE := Lib.hid hSe
            clear hts hSe hze hTe hs1 hs0 hsl hall
            go_wp2_with fail
            go_roundw
            case rel => exact ⟨k + 1, by omega, by rw [HTS.out], by go_num, (by first | rfl | trivial), by rw [HTS.out]; omega⟩
            case measure => simp [intOf]; omega
        · obtain rfl : k = n := by omega
          have hd : decide ((k : Int) < (k : Int)) = false := decide_eq_false (by omega)
          have hd' : decide (k < k) = false := decide_eq_false (by omega)
          rw [List.take_of_length_le (by rw [HN.out]; exact Nat.le_refl _)] at hle ⊢
          have hA := amts_sum HA.out (by unfold maxAmt; omega)
          rw [hA] at HΦ
          clear hsl hall
          go_wp2_with fail
          exact HΦ.out _ _ ⟨rfl, hL⟩
  · rintro a' w' ⟨hLj, e, u0, u1, u2, u4, u5, u6, u7, u8, u9, u10, u11, u12, u13, u14, u15, u16, u17, u18, u19, u20, u21, u22, u23, rfl, he⟩
    go_wp2_with fail
    obtain ⟨he1, he2⟩ := he
    exact HΦ.out _ _ ⟨by rw [he1, he2]; rfl, hLj⟩
def lessS (a : Int) (zs : List Int) : Int × Int := if amts (a :: zs) then (if a < zs.sum then (0, 151) else (a - zs.sum, 0)) else (0, 2)
theorem less_false {a : Int} {zs : List Int} (h : amts (a :: zs) = false) : lessS a zs = (0, 2) := by simp [lessS, h]
theorem less_under {a : Int} {zs : List Int} (h : amts (a :: zs) = true) (h2 : a < zs.sum) : lessS a zs = (0, 151) := by simp [lessS, h, h2]
theorem less_left {a : Int} {zs : List Int} (h : amts (a :: zs) = true) (h2 : ¬ a < zs.sum) : lessS a zs = (a - zs.sum, 0) := by simp [lessS, h, h2]
set_option maxRecDepth 100000 in
theorem all5_any (A : Option Addr) (n c : Nat) (zs : List Int) (w : World) (hn : zs.length = n) (hm : n ≤ 9223372036854775807) (hr : RdV w A (zs.map numV)) :
    Calls Tryz.prog 167 #[.slice A n c] w fun e w' => e = .returned (.bool (amts zs)) ∧ w = w' := by
  refine Calls.post fun Φ HΦ => ?_
  have HN := Lib.hid hn
  clear hn
  go_enter Tryz.func167, Tryz.ntmps167
  go_wp2_with fail
  go_loopw [3] (fun t wr => ∃ k : Nat, k ≤ n ∧ t = .int .i64 k ∧ w = wr ∧ (zs.take k).any (bad maxAmt) = false) (fun t _ => n - (intOf t).toNat)
  case atStart => exact ⟨0, by omega, rfl, rfl, by simp⟩
  case round =>
    obtain ⟨k, hk, rfl, rfl, hany⟩ := hrel
    by_cases hlt : k < n
    · have hd : decide ((k : Int) < (n : Int)) = true := decide_eq_true (by omega)
      have hd' : decide (k < n) = true := decide_eq_true hlt
      have hkl : k < zs.length := by rw [HN.out]; exact hlt
      obtain ⟨b, o, rfl, hc⟩ := hr.at_ (k := k) (by simpa using hkl)
      rw [List.getElem_map] at hc
      obtain ⟨z, hz⟩ : ∃ z, zs[k] = z := ⟨_, rfl⟩
      have htk := mtake1_any (p := bad maxAmt) hkl
      rw [hany, hz, Bool.false_or] at htk
      rw [hz] at hc
      cases hb : bad maxAmt z with
      | true =>
        rw [hb] at htk
        have hyes : amts zs = false := by unfold amts; rw [any_take htk]; rfl
        clear hany htk hz
        go_wp2_with (first
          | (go_at_call 50; refine (right5_any z w).mono ?_; rintro e w' ⟨rfl, rfl⟩; rw [hb])
          | fail)
        exact HΦ.out _ _ ⟨by rw [hyes]; rfl, rfl⟩
      | false =>
        rw [hb] at htk
        clear hany hz
        go_wp2_with (first
          | (go_at_call 50; refine (right5_any z w).mono ?_; rintro e w' ⟨rfl, rfl⟩; rw [hb])
          | fail)
        go_roundw
        case rel => exact ⟨k + 1, by omega, by go_num, (by first | rfl | trivial), htk⟩
        case measure => simp [intOf]; omega
    · obtain rfl : k = n := by omega
      have hd : decide ((k : Int) < (k : Int)) = false := decide_eq_false (by omega)
      have hd' : decide (k < k) = false := decide_eq_false (by omega)
      rw [List.take_of_length_le (by rw [HN.out]; exact Nat.le_refl _)] at hany
      have hyes : amts zs = true := by unfold amts; rw [hany]; rfl
      go_wp2_with fail
      exact HΦ.out _ _ ⟨by rw [hyes]; rfl, rfl⟩
set_option maxRecDepth 100000 in
theorem refAdd_any (A : Option Addr) (n c : Nat) (zs : List Int) (w : World) (hn : zs.length = n) (hm : n ≤ 9223372036854775807) (hr : RdV w A (zs.map numV)) :
    Calls Tryz.prog 136 #[.slice A n c] w fun e w' => e = .returned (.tuple #[.int .i64 (addS zs).1, .int .i64 (addS zs).2]) ∧ w = w' := by
  refine Calls.post fun Φ HΦ => ?_
  have hall5 := all5_any A n c zs w hn hm hr
  have HN := Lib.hid hn
  clear hn
  go_enter Tryz.func136, Tryz.ntmps136
  cases ha : amts zs with
  | false =>
    rw [ha] at hall5
    rw [amts_false ha] at HΦ
    go_wp2_with (first
      | (go_at_call 167; refine hall5.mono ?_; clear hall5; rintro e w1 ⟨rfl, rfl⟩)
      | fail)
    exact HΦ.out _ _ ⟨rfl, rfl⟩
  | true =>
    rw [ha] at hall5
    have hall := amts_mem ha
    have hsl := fun k => take_sum_le (zs := zs) (fun z hz => (hall z hz).1) k
    have HA := Lib.hid ha
    clear ha
    go_wp2_with (first
      | (go_at_call 167; refine hall5.mono ?_; clear hall5; rintro e w1 ⟨rfl, rfl⟩)
      | fail)
    go_loopw [4, 5] (fun t u wr => ∃ k : Nat, k ≤ n ∧ t = .int .i64 (zs.take k).sum ∧ u = .int .i64 k ∧ w = wr ∧ (zs.take k).sum ≤ 1125899906842624) (fun _ u _ => n - (intOf u).toNat)
    case atStart => exact ⟨0, by omega, by simp, rfl, rfl, by simp⟩
    case round =>
      obtain ⟨k, hk, rfl, rfl, rfl, hle⟩ := hrel
      by_cases hlt : k < n
      · have hd : decide ((k : Int) < (n : Int)) = true := decide_eq_true (by omega)
        have hd' : decide (k < n) = true := decide_eq_true hlt
        have hkl : k < zs.length := by rw [HN.out]; exact hlt
        obtain ⟨b, o, rfl, hc⟩ := hr.at_ (k := k) (by simpa using hkl)
        rw [List.getElem_map] at hc
        have hz := hall zs[k] (List.getElem_mem hkl)
        have hts := take_sum hkl
        have hs1 := hsl (k + 1)
        have hs0 := hsl k
        obtain ⟨z, hze⟩ : ∃ z, zs[k] = z := ⟨_, rfl⟩
        obtain ⟨S, hSe⟩ : ∃ S, (zs.take k).sum = S := ⟨_, rfl⟩
        obtain ⟨T, hTe⟩ : ∃ T, zs.sum = T := ⟨_, rfl⟩
        rw [hze] at hc hz hts
        rw [hSe] at hts hs0 hle ⊢
        unfold maxAmt at hz
        have hwr := IntWalk.i64_in (S + z) (by omega)
        by_cases hov : 1125899906842624 < S + z
        · have e1 : decide (1125899906842624 < S + z) = true := decide_eq_true hov
          have hA := amts_over HA.out (by unfold maxAmt; omega)
          rw [hA] at HΦ
          clear hts hSe hze hTe hs1 hs0 hsl hall
          go_wp2_with fail
          exact HΦ.out _ _ ⟨rfl, rfl⟩
        · have e1 : decide (1125899906842624 < S + z) = false := decide_eq_false hov
          have HTS := Lib.hid hts
          clear hts hSe hze hTe hs1 hs0 hsl hall
          go_wp2_with fail
          go_roundw
          case rel => exact ⟨k + 1, by omega, by rw [HTS.out], by go_num, (by first | rfl | trivial), by rw [HTS.out]; omega⟩
          case measure => simp [intOf]; omega
      · obtain rfl : k = n := by omega
        have hd : decide ((k : Int) < (k : Int)) = false := decide_eq_false (by omega)
        have hd' : decide (k < k) = false := decide_eq_false (by omega)
        rw [List.take_of_length_le (by rw [HN.out]; exact Nat.le_refl _)] at hle ⊢
        have hA := amts_sum HA.out (by unfold maxAmt; omega)
        rw [hA] at HΦ
        clear hsl hall
        go_wp2_with fail
        exact HΦ.out _ _ ⟨rfl, rfl⟩
theorem amts_cons (a : Int) (zs : List Int) : amts (a :: zs) = (!bad maxAmt a && amts zs) := by
  unfold amts
  rw [List.any_cons]
  cases bad maxAmt a <;> rfl
end Go.Proofs.YtloiaaolnfimgaaGreat
namespace Go.Proofs.YtloiaaolnfimgaaGreat
open Go.RowKit
theorem and_xor : ∀ (n x y : Nat), x ≤ n → 2 * (x &&& y) + (x ^^^ y) = x + y
  | 0, x, y, h => by
    obtain rfl : x = 0 := by omega
    simp
  | n + 1, x, y, h => by
    rcases Nat.eq_zero_or_pos x with rfl | hp
    · simp
    · have ih := and_xor n (x / 2) (y / 2) (by omega)
      have a1 : (x &&& y) / 2 = x / 2 &&& y / 2 := by simpa using Nat.and_div_two_pow (a := x) (b := y) (n := 1)
      have a2 : (x ^^^ y) / 2 = x / 2 ^^^ y / 2 := by simpa using Nat.xor_div_two_pow (a := x) (b := y) (n := 1)
      have b1 : (x &&& y) % 2 = x % 2 &&& y % 2 := by simpa using Nat.and_mod_two_pow (a := x) (b := y) (n := 1)
      have b2 : (x ^^^ y) % 2 = x % 2 ^^^ y % 2 := by simpa using Nat.xor_mod_two_pow (a := x) (b := y) (n := 1)
      rw [← a1, ← a2] at ih
      clear a1 a2
      generalize x &&& y = p at *
      generalize x ^^^ y = q at *
      have c00 : (0 : Nat) &&& 0 = 0 := rfl
      have c01 : (0 : Nat) &&& 1 = 0 := rfl
      have c10 : (1 : Nat) &&& 0 = 0 := rfl
      have c11 : (1 : Nat) &&& 1 = 1 := rfl
      have d00 : (0 : Nat) ^^^ 0 = 0 := rfl
      have d01 : (0 : Nat) ^^^ 1 = 1 := rfl
      have d10 : (1 : Nat) ^^^ 0 = 1 := rfl
      have d11 : (1 : Nat) ^^^ 1 = 0 := rfl
      rcases Nat.mod_two_eq_zero_or_one x with hx | hx <;> rcases Nat.mod_two_eq_zero_or_one y with hy | hy
      · rw [hx, hy, c00] at b1; rw [hx, hy, d00] at b2; omega
      · rw [hx, hy, c01] at b1; rw [hx, hy, d01] at b2; omega
      · rw [hx, hy, c10] at b1; rw [hx, hy, d10] at b2; omega
      · rw [hx, hy, c11] at b1; rw [hx, hy, d11] at b2; omega
theorem i64_and_nat (a b : Nat) (ha : a < 9223372036854775808) (hb : b < 9223372036854775808) : bits .and .i64 (a : Int) (b : Int) = ((a &&& b : Nat) : Int) := by
  have hx : a &&& b < 2 ^ 63 := Nat.and_lt_two_pow _ (by omega)
  show IntKind.i64.wrap ((BitVec.ofInt 64 (a : Int) &&& BitVec.ofInt 64 (b : Int)).toNat : Int) = _
  rw [BitVec.toNat_and, ofInt_u64 a (by omega), ofInt_u64 b (by omega)]
  exact IntWalk.i64_in _ (by omega)
theorem i64_xor_nat (a b : Nat) (ha : a < 9223372036854775808) (hb : b < 9223372036854775808) : bits .xor .i64 (a : Int) (b : Int) = ((a ^^^ b : Nat) : Int) := by
  have hx : a ^^^ b < 2 ^ 63 := Nat.xor_lt_two_pow (by omega) (by omega)
  show IntKind.i64.wrap ((BitVec.ofInt 64 (a : Int) ^^^ BitVec.ofInt 64 (b : Int)).toNat : Int) = _
  rw [BitVec.toNat_xor, ofInt_u64 a (by omega), ofInt_u64 b (by omega)]
  exact IntWalk.i64_in _ (by omega)
def midS (a b : Int) : Int × Int := if amts [a, b] then ((a + b) / 2, 0) else (0, 2)
theorem mid_bits {a b : Int} (h : amts [a, b] = true) : bits .and .i64 a b + bits .xor .i64 a b / 2 = (a + b) / 2 ∧ 0 ≤ bits .and .i64 a b ∧ 0 ≤ bits .xor .i64 a b ∧ bits .xor .i64 a b < 9223372036854775808 := by
  have ha := amts_mem h a (by simp)
  have hb := amts_mem h b (by simp)
  unfold maxAmt at ha hb
  obtain ⟨x, rfl⟩ := Int.eq_ofNat_of_zero_le ha.1
  obtain ⟨y, rfl⟩ := Int.eq_ofNat_of_zero_le hb.1
  have h1 := i64_and_nat x y (by omega) (by omega)
  have h2 := i64_xor_nat x y (by omega) (by omega)
  have h3 := and_xor x x y (Nat.le_refl _)
  have h4 : x ^^^ y < 2 ^ 63 := Nat.xor_lt_two_pow (by omega) (by omega)
  show bits .and .i64 (x : Int) (y : Int) + bits .xor .i64 (x : Int) (y : Int) / 2 = ((x : Int) + (y : Int)) / 2 ∧ _
  rw [h1, h2]
  omega
end Go.Proofs.YtloiaaolnfimgaaGreat
namespace Go.Proofs.YtloiaaolnfimgaaGreat
open Go.RowKit
set_option maxRecDepth 100000 in
theorem len64_million (w : World) : Calls Tryz.prog 191 #[.int .u64 1000000] w fun e w' => e = .returned (.int .i64 20) ∧ w = w' := by
  go_enter Tryz.func191, Tryz.ntmps191
  go_wp2
  go_ret
  exact ⟨by kernel_rfl, rfl⟩
theorem lead64_million (w : World) : Calls Tryz.prog 180 #[.int .u64 1000000] w fun e w' => e = .returned (.int .i64 44) ∧ w = w' := by
  have hl := len64_million w
  go_enter Tryz.func180, Tryz.ntmps180
  go_wp2_with (first
    | (go_at_call 191; refine hl.mono ?_; clear hl; rintro e w' ⟨rfl, rfl⟩)
    | fail)
  go_ret
  exact ⟨rfl, rfl⟩
theorem div_f1 (hi lo : Nat) (h1 : 0 < hi) (h2 : hi < 64) (h3 : lo < 18446744073709551616) : bits .or .u64 ((hi : Int) * 17592186044416) ((lo : Int) / 1048576) = ((hi * 17592186044416 + lo / 1048576 : Nat) : Int) := by
  have h := u64_or_nat (hi * 17592186044416) (lo / 1048576) (by omega) (by omega)
  rw [nat_join 44 (hi * 17592186044416) (lo / 1048576) (by omega) (by omega)] at h
  rw [← h]
  congr 1
theorem div_f2 (lo : Nat) (h3 : lo < 18446744073709551616) : IntKind.u64.wrap ((lo : Int) * 17592186044416) = ((lo % 1048576 * 17592186044416 : Nat) : Int) := by
  rw [IntKind.wrap_u64]
  omega
theorem div_f4 (lo : Nat) (h3 : lo < 18446744073709551616) : bits .and .u64 ((lo % 1048576 * 17592186044416 : Nat) : Int) 4294967295 = 0 := by
  have h := u64_and_nat (lo % 1048576 * 17592186044416) 4294967295 (by omega) (by omega)
  rw [show (4294967295 : Int) = ((4294967295 : Nat) : Int) from rfl, h]
  rw [show 4294967295 = 2 ^ 32 - 1 from rfl, Nat.and_two_pow_sub_one_eq_mod]
  omega
theorem div_g3 (U V q1 r1 : Nat) (hV : V < 4294967296) (hU : U = q1 * 4096000000 + r1) (hr : r1 < 4096000000) : IntKind.u64.wrap (IntKind.u64.wrap (IntKind.u64.wrap ((U : Int) * 4294967296) + (V : Int)) - IntKind.u64.wrap ((q1 : Int) * 17592186044416000000)) = ((r1 * 4294967296 + V : Nat) : Int) := by
  have hUZ : (U : Int) = q1 * 4096000000 + r1 := by omega
  have ha := Int.emod_def ((U : Int) * 4294967296) 18446744073709551616
  have hb := Int.emod_def ((q1 : Int) * 17592186044416000000) 18446744073709551616
  have hc := Int.emod_def ((U : Int) * 4294967296 % 18446744073709551616 + V) 18446744073709551616
  rw [IntKind.wrap_u64, IntKind.wrap_u64, IntKind.wrap_u64, IntKind.wrap_u64, hc, ha, hb, hUZ]
  generalize ((q1 * 4096000000 + r1 : Int) * 4294967296) / 18446744073709551616 = a
  generalize ((q1 : Int) * 17592186044416000000) / 18446744073709551616 = b
  generalize ((q1 * 4096000000 + r1 : Int) * 4294967296 - 18446744073709551616 * a + V) / 18446744073709551616 = c
  clear hUZ hU ha hb hc
  have : ((q1 * 4096000000 + r1 : Int) * 4294967296 - 18446744073709551616 * a + V - 18446744073709551616 * c - (q1 * 17592186044416000000 - 18446744073709551616 * b)) = ((r1 * 4294967296 + V : Nat) : Int) + 18446744073709551616 * (b - a - c) := by omega
  rw [this, Int.add_mul_emod_self_left]
  omega
structure Div64F (hi lo U T V q1 r1 X q0 r0 : Nat) : Prop where
  hU : hi * 17592186044416 + lo / 1048576 = U
  hT : lo % 1048576 * 17592186044416 = T
  hV : lo % 1048576 * 4096 = V
  hUq : U = q1 * 4096000000 + r1
  hr1 : r1 < 4096000000
  hX : r1 * 4294967296 + V = X
  hXq : X = q0 * 4096000000 + r0
  hr0 : r0 < 4096000000
  hUb : U < 1125899906842624
  hVb : V < 4294967296
  hq1 : q1 < 4294967296
  hq0 : q0 < 4294967296
theorem div_exists (hi lo : Nat) (h1 : 0 < hi) (h2 : hi < 64) (h3 : lo < 18446744073709551616) : ∃ U T V q1 r1 X q0 r0, Div64F hi lo U T V q1 r1 X q0 r0 := by
  refine ⟨_, _, _, (hi * 17592186044416 + lo / 1048576) / 4096000000, (hi * 17592186044416 + lo / 1048576) % 4096000000, _, ((hi * 17592186044416 + lo / 1048576) % 4096000000 * 4294967296 + lo % 1048576 * 4096) / 4096000000, ((hi * 17592186044416 + lo / 1048576) % 4096000000 * 4294967296 + lo % 1048576 * 4096) % 4096000000, rfl, rfl, rfl, ?_, ?_, rfl, ?_, ?_, ?_, ?_, ?_, ?_⟩ <;> omega
set_option maxRecDepth 100000 in
theorem div_q {hi lo U T V q1 r1 X q0 r0 : Nat} (h : Div64F hi lo U T V q1 r1 X q0 r0) : (hi * 18446744073709551616 + lo) / 1000000 = q1 * 4294967296 + q0 := by
  obtain ⟨a, b, c, d, e, f, g, i, j, k, l, m⟩ := h
  have : (hi * 18446744073709551616 + lo) * 4096 = (q1 * 4294967296 + q0) * 4096000000 + r0 := by omega
  omega
set_option maxRecDepth 100000 in
theorem div64_any (hi lo : Nat) (w : World) (h1 : 0 < hi) (h2 : hi < 64) (h3 : lo < 18446744073709551616) :
    Calls Tryz.prog 165 #[.int .u64 (hi : Int), .int .u64 (lo : Int), .int .u64 1000000] w fun e w' => (∃ r, e = .returned (.tuple #[.int .u64 (((hi * 18446744073709551616 + lo) / 1000000 : Nat) : Int), r])) ∧ w = w' := by
  refine Calls.post fun Φ HΦ => ?_
  obtain ⟨U, T, V, q1, r1, X, q0, r0, hF⟩ := div_exists hi lo h1 h2 h3
  rw [div_q hF] at HΦ
  have e1 : decide ((1000000 : Int) ≤ (hi : Int)) = false := decide_eq_false (by omega)
  have e2 : decide ((hi : Int) = 0) = false := decide_eq_false (by omega)
  have f0 : bits .and .u64 17592186044416000000 4294967295 = 0 := by kernel_rfl
  have f1 := div_f1 hi lo h1 h2 h3
  have f2 := div_f2 lo h3
  have f4 := div_f4 lo h3
  rw [hF.hU] at f1
  rw [hF.hT] at f2 f4
  have f3 : (T : Int) / 4294967296 = (V : Int) := by have := hF.hT; have := hF.hV; omega
  have g1 : (U : Int) / 4096000000 = (q1 : Int) := by have := hF.hUq; have := hF.hr1; omega
  have g2 : (U : Int) - (q1 : Int) * 4096000000 = (r1 : Int) := by have := hF.hUq; omega
  have g3 := div_g3 U V q1 r1 hF.hVb hF.hUq hF.hr1
  rw [hF.hX] at g3
  have g4 : (X : Int) / 4096000000 = (q0 : Int) := by have := hF.hXq; have := hF.hr0; omega
  have g5 : (X : Int) - (q0 : Int) * 4096000000 = (r0 : Int) := by have := hF.hXq; omega
  have hq1b := hF.hq1
  have hq0b := hF.hq0
  have hr1b := hF.hr1
  have hr0b := hF.hr0
  have hUb := hF.hUb
  have hVb := hF.hVb
  have d1 : decide (4294967296 ≤ (q1 : Int)) = false := decide_eq_false (by omega)
  have d2 : decide (4294967296 * (r1 : Int) + (V : Int) < 0) = false := decide_eq_false (by omega)
  have d3 : decide (4294967296 ≤ (q0 : Int)) = false := decide_eq_false (by omega)
  have d4 : decide (4294967296 * (r0 : Int) < 0) = false := decide_eq_false (by omega)
  have hXb : X < 18446744073709551616 := by have := hF.hX; omega
  have HF := Lib.hid hF
  clear hF
  go_enter Tryz.func165, Tryz.ntmps165
  go_wp2_with (first
    | (go_at_call 180; refine (lead64_million w).mono ?_; rintro e w' ⟨rfl, rfl⟩)
    | fail)
  go_loopw [15, 16] (fun t u wr => t = .int .u64 (q1 : Int) ∧ u = .int .u64 (r1 : Int) ∧ w = wr) (fun _ _ _ => 0)
  case atStart => exact ⟨rfl, rfl, rfl⟩
  case round =>
    obtain ⟨rfl, rfl, rfl⟩ := hrel
    go_wp2_with fail
    go_loopw [18, 16] (fun t u wr => t = .int .u64 (q0 : Int) ∧ u = .int .u64 (r0 : Int) ∧ w = wr) (fun _ _ _ => 0)
    case atStart => exact ⟨rfl, rfl, rfl⟩
    case round =>
      obtain ⟨rfl, rfl, rfl⟩ := hrel
      go_wp2_with fail
      exact HΦ.out _ _ ⟨⟨_, rfl⟩, rfl⟩
set_option maxRecDepth 100000 in
theorem div64_small (lo : Nat) (w : World) (h3 : lo < 18446744073709551616) :
    Calls Tryz.prog 165 #[.int .u64 0, .int .u64 (lo : Int), .int .u64 1000000] w fun e w' => (∃ r, e = .returned (.tuple #[.int .u64 ((lo / 1000000 : Nat) : Int), r])) ∧ Later w w' := by
  refine Calls.post fun Φ HΦ => ?_
  go_enter Tryz.func165, Tryz.ntmps165
  go_wp2_with fail
  go_region
  go_wp2
  exact HΦ.out _ _ ⟨⟨_, rfl⟩, (Later.refl w).drew⟩
theorem div64_all (hi lo : Nat) (w : World) (h2 : hi < 64) (h3 : lo < 18446744073709551616) :
    Calls Tryz.prog 165 #[.int .u64 (hi : Int), .int .u64 (lo : Int), .int .u64 1000000] w fun e w' => (∃ r, e = .returned (.tuple #[.int .u64 (((hi * 18446744073709551616 + lo) / 1000000 : Nat) : Int), r])) ∧ Later w w' := by
  rcases Nat.eq_zero_or_pos hi with rfl | h1
  · have := div64_small lo w h3
    rw [Nat.zero_mul, Nat.zero_add]
    exact this
  · exact (div64_any hi lo w h1 h2 h3).mono fun e w' ⟨he, hw⟩ => ⟨he, hw ▸ Later.refl w⟩
end Go.Proofs.YtloiaaolnfimgaaGreat
namespace Go.Proofs.YtloiaaolnfimgaaGreat
open Go.RowKit
theorem mul_split (n k : Nat) : n * k / 18446744073709551616 * 18446744073709551616 + n * k % 18446744073709551616 = n * k := by omega
set_option maxRecDepth 100000 in
theorem of1_any (g n k : Nat) (w : World) (hg : w.cell? ⟨g, 0, none⟩ = some (.int .i64 (n : Int))) (hn : n < 9223372036854775808) (hk : k < 18446744073709551616) (hq : n * k / 18446744073709551616 < 64) (hr : n * k / 1000000 < 9223372036854775808) :
    Calls Tryz.prog 163 #[.int .u64 (k : Int), .int .u64 1000000, .pointer (some ⟨g, 0, none⟩)] w fun e w' => e = .returned (.int .i64 ((n * k / 1000000 : Nat) : Int)) ∧ Later w w' := by
  refine Calls.post fun Φ HΦ => ?_
  have hm := Tryz.bits_Mul64 n k (by omega) hk w
  have hd := div64_all (n * k / 18446744073709551616) (n * k % 18446744073709551616) w hq (Nat.mod_lt _ (by decide))
  rw [mul_split n k] at hd
  obtain ⟨r, hr'⟩ : ∃ r, n * k / 1000000 = r := ⟨_, rfl⟩
  obtain ⟨H, hH⟩ : ∃ r, n * k / 18446744073709551616 = r := ⟨_, rfl⟩
  obtain ⟨L, hL⟩ : ∃ r, n * k % 18446744073709551616 = r := ⟨_, rfl⟩
  rw [hr'] at hr hd HΦ
  rw [hH] at hm hd
  rw [hL] at hm hd
  clear hr' hH hL hq
  have c1 : IntKind.u64.wrap (n : Int) = (n : Int) := by rw [IntKind.wrap_u64]; omega
  have c2 : IntKind.i64.wrap (r : Int) = (r : Int) := IntWalk.i64_in _ (by omega)
  go_enter Tryz.func163, Tryz.ntmps163
  go_wp2_with (first
    | (go_at_call 164; refine hm.mono ?_; clear hm; rintro e w1 ⟨rfl, rfl⟩)
    | (go_at_call 165; refine hd.mono ?_; clear hd; rintro e w1 ⟨⟨z, rfl⟩, hL⟩)
    | fail)
  exact HΦ.out _ _ ⟨rfl, hL⟩
set_option maxRecDepth 100000 in
theorem of_any (n : Int) (w : World) :
    Calls Tryz.prog 133 #[.int .i64 n] w fun e w' => e = .returned (.func (.func 163) #[] #[.pointer (some ⟨w.heap.size, 0, none⟩)]) ∧ w' = w.alloc (.cells #[.int .i64 n] 2) := by
  refine Calls.post fun Φ HΦ => ?_
  go_enter Tryz.func133, Tryz.ntmps133
  go_wp2_with fail
  exact HΦ.out _ _ ⟨rfl, rfl⟩
def okRate (r : Int) : Bool := !bad 1000000 r
def shareS (a r : Int) : Int × Int := if amts [a] && okRate r then (a * r / 1000000, 0) else (0, 2)
theorem amts_one (a : Int) : amts [a] = !bad maxAmt a := by simp [amts]
theorem rate_one (r : Int) : (![r].any (bad 1000000)) = okRate r := by simp [okRate]
theorem okRate_iff {r : Int} (h : okRate r = true) : 0 ≤ r ∧ r ≤ 1000000 := by simp [okRate, bad] at h; omega
theorem okAmt_iff {a : Int} (h : amts [a] = true) : 0 ≤ a ∧ a ≤ 1125899906842624 := by simp [amts, bad, maxAmt] at h; omega
theorem share_nat (a r : Nat) (ha : a ≤ 1125899906842624) (hr : r ≤ 1000000) : a * r ≤ 1125899906842624000000 := Nat.mul_le_mul ha hr
theorem share_split (a r : Nat) : a / 1000000 * r + a % 1000000 * r / 1000000 = a * r / 1000000 := by
  have h : a * r = 1000000 * (a / 1000000 * r) + a % 1000000 * r := by
    conv => lhs; rw [← Nat.div_add_mod a 1000000]
    rw [Nat.add_mul, Nat.mul_assoc]
  rw [h]
  omega
set_option maxRecDepth 100000 in
theorem share_any (a r : Int) (w : World) :
    Calls Tryz.prog 94 #[.int .i64 a, .int .i64 r] w fun e w' => e = .returned (.tuple #[.int .i64 (shareS a r).1, .int .i64 (shareS a r).2]) ∧ Below w.heap.size w w' := by
  refine Calls.post fun Φ HΦ => ?_
  have hL0 := (Later.refl w).alloc (.cells #[.int .i64 a] 2)
  have hck := check_any (some ⟨w.heap.size, 0, none⟩) 1 1 [a] _ rfl (by omega) (rd1Z a w)
  have hin := fun W => in_any 1000000 (some ⟨World.heap W |>.size, 0, none⟩) 1 1 [r] _ rfl (by omega) (rd1Z r W)
  simp only [rate_one] at hin
  cases ha : amts [a] with
  | false =>
    rw [ha] at hck
    have hS : shareS a r = (0, 2) := by simp [shareS, ha]
    rw [hS] at HΦ
    clear hin
    go_enter Tryz.func94, Tryz.ntmps94
    go_wp2_with (first
      | (refine wpList_buildSl rfl 101 1 _ rfl #[(0, .int .i64 a)] rfl (build1Z a _) ?_)
      | (go_at_call 96; refine hck.mono ?_; clear hck; rintro e w1 ⟨rfl, hL1⟩)
      | fail)
    exact HΦ.out _ _ ⟨rfl, hL0.step hL1⟩
  | true =>
    rw [ha] at hck
    cases hr : okRate r with
    | false =>
      simp only [hr] at hin
      have hS : shareS a r = (0, 2) := by simp [shareS, ha, hr]
      rw [hS] at HΦ
      go_enter Tryz.func94, Tryz.ntmps94
      go_wp2_with (first
        | (refine wpList_buildSl rfl 101 1 _ rfl #[(0, .int .i64 _)] rfl (build1Z _ _) ?_)
        | (go_at_call 96; refine hck.mono ?_; clear hck; rintro e w1 ⟨rfl, hL1⟩)
        | (go_at_call 132; refine (hin _).mono ?_; clear hin; rintro e w2 ⟨rfl, hL2⟩)
        | fail)
      exact HΦ.out _ _ ⟨rfl, ((hL0.step hL1).step ((Later.refl w1).alloc _)).step hL2⟩
    | true =>
      simp only [hr] at hin
      have h1 := okAmt_iff ha
      have h2 := okRate_iff hr
      obtain ⟨n, rfl⟩ := Int.eq_ofNat_of_zero_le h1.1
      obtain ⟨k, rfl⟩ := Int.eq_ofNat_of_zero_le h2.1
      have hn : n ≤ 1125899906842624 := by omega
      have hk : k ≤ 1000000 := by omega
      have hnk := share_nat n k hn hk
      have hS : shareS n k = (((n * k / 1000000 : Nat) : Int), 0) := by simp [shareS, ha, hr]
      rw [hS] at HΦ
      have hof := fun W => of1_any (World.heap W |>.size) n k (W.alloc (.cells #[.int .i64 (n : Int)] 2)) (((Row.new W 2 #[.int .i64 (n : Int)]).cell 0).trans rfl) (by omega) (by omega) (by omega) (by omega)
      have c1 : IntKind.u64.wrap (k : Int) = (k : Int) := by rw [IntKind.wrap_u64]; omega
      clear h1 h2 hnk hn hk ha hr hS
      go_enter Tryz.func94, Tryz.ntmps94
      go_wp2_with (first
        | (refine wpList_buildSl rfl 101 1 _ rfl #[(0, .int .i64 _)] rfl (build1Z _ _) ?_)
        | (go_at_call 96; refine hck.mono ?_; clear hck; rintro e w1 ⟨rfl, hL1⟩)
        | (go_at_call 132; refine (hin _).mono ?_; clear hin; rintro e w2 ⟨rfl, hL2⟩)
        | (go_at_call 133; refine (of_any _ _).mono ?_; rintro e w3 ⟨rfl, rfl⟩)
        | (go_at_call 163; refine (hof _).mono ?_; clear hof; rintro e w4 ⟨rfl, hL4⟩)
        | fail)
      exact HΦ.out _ _ ⟨rfl, ((((hL0.step hL1).step ((Later.refl w1).alloc _)).step hL2).step ((Later.refl w2).alloc _)).step hL4⟩
theorem rate5_any (r : Int) (w : World) : Calls Tryz.prog 101 #[.int .i64 r] w fun e w' => e = .returned (.bool (okRate r)) ∧ w = w' := by
  refine Calls.post fun Φ HΦ => ?_
  by_cases h : 0 ≤ r
  · have e1 : decide (0 ≤ r) = true := decide_eq_true h
    have e2 : okRate r = decide (r ≤ 1000000) := by
      have h0 : decide (r < 0) = false := decide_eq_false (by omega)
      by_cases h' : r ≤ 1000000
      · have h1 : decide (1000000 < r) = false := decide_eq_false (by omega)
        simp only [okRate, bad, h0, h1, decide_eq_true h', Bool.or_self, Bool.not_false]
      · have h1 : decide (1000000 < r) = true := decide_eq_true (by omega)
        simp only [okRate, bad, h0, h1, decide_eq_false h', Bool.or_true, Bool.not_true]
    rw [e2] at HΦ
    go_enter Tryz.func101, Tryz.ntmps101
    go_wp2_with fail
    exact HΦ.out _ _ ⟨rfl, rfl⟩
  · have e1 : decide (0 ≤ r) = false := decide_eq_false h
    have e2 : okRate r = false := by
      have : decide (r < 0) = true := decide_eq_true (by omega)
      simp [okRate, bad, this]
    rw [e2] at HΦ
    go_enter Tryz.func101, Tryz.ntmps101
    go_wp2_with fail
    exact HΦ.out _ _ ⟨rfl, rfl⟩
set_option maxRecDepth 100000 in
theorem refShare_any (a r : Int) (w : World) :
    Calls Tryz.prog 166 #[.int .i64 a, .int .i64 r] w fun e w' => e = .returned (.tuple #[.int .i64 (shareS a r).1, .int .i64 (shareS a r).2]) ∧ w = w' := by
  refine Calls.post fun Φ HΦ => ?_
  have hra := right5_any a w
  have hrr := rate5_any r w
  rw [← amts_one a] at hra
  cases ha : amts [a] with
  | false =>
    rw [ha] at hra
    have hS : shareS a r = (0, 2) := by simp [shareS, ha]
    rw [hS] at HΦ
    go_enter Tryz.func166, Tryz.ntmps166
    go_wp2_with (first
      | (go_at_call 50; refine hra.mono ?_; clear hra; rintro e w1 ⟨rfl, rfl⟩)
      | fail)
    exact HΦ.out _ _ ⟨rfl, rfl⟩
  | true =>
    rw [ha] at hra
    cases hr : okRate r with
    | false =>
      rw [hr] at hrr
      have hS : shareS a r = (0, 2) := by simp [shareS, ha, hr]
      rw [hS] at HΦ
      go_enter Tryz.func166, Tryz.ntmps166
      go_wp2_with (first
        | (go_at_call 50; refine hra.mono ?_; clear hra; rintro e w1 ⟨rfl, rfl⟩)
        | (go_at_call 101; refine hrr.mono ?_; clear hrr; rintro e w1 ⟨rfl, rfl⟩)
        | fail)
      exact HΦ.out _ _ ⟨rfl, rfl⟩
    | true =>
      rw [hr] at hrr
      have h1 := okAmt_iff ha
      have h2 := okRate_iff hr
      obtain ⟨n, rfl⟩ := Int.eq_ofNat_of_zero_le h1.1
      obtain ⟨k, rfl⟩ := Int.eq_ofNat_of_zero_le h2.1
      have hn : n ≤ 1125899906842624 := by omega
      have hk : k ≤ 1000000 := by omega
      have hS : shareS n k = (((n * k / 1000000 : Nat) : Int), 0) := by simp [shareS, ha, hr]
      rw [hS, ← share_split n k] at HΦ
      have b1 : n / 1000000 * k ≤ 1125899906 * 1000000 := Nat.mul_le_mul (by omega) hk
      have b2 : n % 1000000 * k ≤ 1000000 * 1000000 := Nat.mul_le_mul (by omega) hk
      obtain ⟨q, hq⟩ : ∃ q, n / 1000000 = q := ⟨_, rfl⟩
      obtain ⟨m, hm⟩ : ∃ m, n % 1000000 = m := ⟨_, rfl⟩
      have d1 : (n : Int) / 1000000 = (q : Int) := by omega
      have d2 : (n : Int) % 1000000 = (m : Int) := by omega
      rw [hq] at b1 HΦ
      rw [hm] at b2 HΦ
      obtain ⟨X, hX⟩ : ∃ X, q * k = X := ⟨_, rfl⟩
      obtain ⟨Y, hY⟩ : ∃ Y, m * k = Y := ⟨_, rfl⟩
      have d3 : (q : Int) * (k : Int) = (X : Int) := by rw [← hX]; exact (Int.natCast_mul _ _).symm
      have d4 : (m : Int) * (k : Int) = (Y : Int) := by rw [← hY]; exact (Int.natCast_mul _ _).symm
      rw [hX] at b1 HΦ
      rw [hY] at b2 HΦ
      clear h1 h2 ha hr hS hq hm hX hY
      have h0 : (0 : Int) ≤ (n : Int) := by omega
      go_enter Tryz.func166, Tryz.ntmps166
      go_wp2_with (first
        | (go_at_call 50; refine hra.mono ?_; clear hra; rintro e w1 ⟨rfl, rfl⟩)
        | (go_at_call 101; refine hrr.mono ?_; clear hrr; rintro e w1 ⟨rfl, rfl⟩)
        | fail)
      exact HΦ.out _ _ ⟨rfl, rfl⟩
end Go.Proofs.YtloiaaolnfimgaaGreat
namespace Go.Proofs.YtloiaaolnfimgaaGreat
open Go.RowKit
abbrev feeV (b r : Int) : Value := .agg #[.int .i64 b, .int .i64 r]
theorem amt_one (a : Int) : (![a].any (bad 1125899906842624)) = amts [a] := by simp [amts, maxAmt]
theorem rd1Z1 (b : Int) (w : World) (o : Obj) : RdV ((w.alloc o).alloc (.cells #[.int .i64 b] 2)) (some ⟨w.heap.size + 1, 0, none⟩) ([b].map numV) := by
  have := rd1Z b (w.alloc o)
  rwa [World.size_alloc] at this
theorem cell_later {w w' : World} {p : Addr} {v : Value} (h : w.cell? p = some v) (hL : Later w w') : w'.cell? p = some v := (World.cell?_of_block (hL.block _ (block_lt_of_cell h))).trans h
set_option maxRecDepth 100000 in
theorem right_any (b r : Int) (w : World) :
    Calls Tryz.prog 93 #[feeV b r] w fun e w' => e = .returned (.bool (amts [b] && okRate r)) ∧ Below w.heap.size w w' := by
  refine Calls.post fun Φ HΦ => ?_
  have hL0 := ((Later.refl w).alloc (.cells #[.int .i64 b, .int .i64 r] 162)).alloc (.cells #[.int .i64 b] 2)
  have hib := in_any 1125899906842624 (some ⟨w.heap.size + 1, 0, none⟩) 1 1 [b] _ rfl (by omega) (rd1Z1 b w (.cells #[.int .i64 b, .int .i64 r] 162))
  simp only [amt_one] at hib
  have hin := fun W => in_any 1000000 (some ⟨World.heap W |>.size, 0, none⟩) 1 1 [r] _ rfl (by omega) (rd1Z r W)
  simp only [rate_one] at hin
  have hrow : Row ((w.alloc (.cells #[.int .i64 b, .int .i64 r] 162)).alloc (.cells #[.int .i64 b] 2)) w.heap.size 162 #[.int .i64 b, .int .i64 r] := (Row.new w 162 _).alloc _
  cases ha : amts [b] with
  | false =>
    simp only [ha] at hib
    rw [ha, Bool.false_and] at HΦ
    clear hin hrow
    go_enter Tryz.func93, Tryz.ntmps93
    go_wp2_with (first
      | (refine wpList_buildSl rfl 101 1 _ rfl #[(0, .int .i64 _)] rfl (build1Z _ _) ?_)
      | (go_at_call 132; refine hib.mono ?_; clear hib; rintro e w1 ⟨rfl, hL1⟩)
      | fail)
    exact HΦ.out _ _ ⟨rfl, hL0.step hL1⟩
  | true =>
    simp only [ha] at hib
    rw [ha, Bool.true_and] at HΦ
    go_enter Tryz.func93, Tryz.ntmps93
    go_wp2_with (first
      | (refine wpList_buildSl rfl 101 1 _ rfl #[(0, .int .i64 _)] rfl (build1Z _ _) ?_)
      | (go_at_call 132; refine hib.mono ?_; clear hib; rintro e w1 ⟨rfl, hL1⟩; have hc1 : w1.cell? ⟨w.heap.size, 1, none⟩ = some (.int .i64 r) := cell_later ((hrow.cell 1).trans rfl) hL1; clear hrow)
      | (go_at_call 132; refine (hin _).mono ?_; clear hin; rintro e w2 ⟨rfl, hL2⟩)
      | fail)
    exact HΦ.out _ _ ⟨rfl, ((hL0.step hL1).step ((Later.refl w1).alloc _)).step hL2⟩
def takeS (b r a : Int) : Int × Int :=
  if amts [b] && okRate r then (if (shareS a r).2 = 0 then addS [b, (shareS a r).1] else (0, (shareS a r).2)) else (0, 2)
def sendS (b r a : Int) : Int × Int := if (takeS b r a).2 = 0 then addS [a, (takeS b r a).1] else (0, (takeS b r a).2)
theorem rd2Z1 (x y : Int) (w : World) (o : Obj) : RdV ((w.alloc o).alloc (.cells #[.int .i64 x, .int .i64 y] 2)) (some ⟨w.heap.size + 1, 0, none⟩) ([x, y].map numV) := by
  have := rd2Z x y (w.alloc o)
  rwa [World.size_alloc] at this
set_option maxRecDepth 100000 in
theorem take_fee (b r a : Int) (w : World) :
    Calls Tryz.prog 47 #[feeV b r, .int .i64 a] w fun e w' => e = .returned (.tuple #[.int .i64 (takeS b r a).1, .int .i64 (takeS b r a).2]) ∧ Below w.heap.size w w' := by
  refine Calls.post fun Φ HΦ => ?_
  have hL0 := ((Later.refl w).alloc (.cells #[.int .i64 b, .int .i64 r] 42)).alloc (.cells #[.int .i64 b, .int .i64 r] 162)
  cases ha : amts [b] && okRate r with
  | false =>
    have hS : takeS b r a = (0, 2) := by unfold takeS; rw [ha]; rfl
    rw [hS] at HΦ
    have hr := fun W => right_any b r W
    simp only [ha] at hr
    go_enter Tryz.func47, Tryz.ntmps47
    go_wp2_with (first
      | (go_at_call 93; refine (hr _).mono ?_; clear hr; rintro e w1 ⟨rfl, hL1⟩)
      | fail)
    exact HΦ.out _ _ ⟨rfl, hL0.step hL1⟩
  | true =>
    have hr := fun W => right_any b r W
    simp only [ha] at hr
    have hrow : Row ((w.alloc (.cells #[.int .i64 b, .int .i64 r] 42)).alloc (.cells #[.int .i64 b, .int .i64 r] 162)) (w.heap.size + 1) 162 #[.int .i64 b, .int .i64 r] := by
      have := Row.new (w.alloc (.cells #[.int .i64 b, .int .i64 r] 42)) 162 #[.int .i64 b, .int .i64 r]
      rwa [World.size_alloc] at this
    have hsh := fun W => share_any a r W
    have hok : okRate r = true := by rw [Bool.and_eq_true] at ha; exact ha.2
    cases hm : amts [a] with
    | false =>
      have hs : shareS a r = (0, 2) := by simp [shareS, hm]
      have hS : takeS b r a = (0, 2) := by unfold takeS; rw [ha, hs]; rfl
      rw [hS] at HΦ
      simp only [hs] at hsh
      clear hok ha hs hm
      go_enter Tryz.func47, Tryz.ntmps47
      go_wp2_with (first
        | (go_at_call 93; refine (hr _).mono ?_; clear hr; rintro e w1 ⟨rfl, hL1⟩; have hc1 : w1.cell? ⟨w.heap.size + 1, 1, none⟩ = some (.int .i64 r) := cell_later ((hrow.cell 1).trans rfl) hL1; have hL2 := hL0.step hL1; clear hrow hL1)
        | (go_at_call 94; refine (hsh _).mono ?_; clear hsh; rintro e w2 ⟨rfl, hL3⟩)
        | fail)
      exact HΦ.out _ _ ⟨rfl, hL2.step hL3⟩
    | true =>
      obtain ⟨s, hs'⟩ : ∃ s, a * r / 1000000 = s := ⟨_, rfl⟩
      have hs : shareS a r = (s, 0) := by simp [shareS, hm, hok, hs']
      have hS : takeS b r a = addS [b, s] := by unfold takeS; rw [ha, hs]; rfl
      rw [hS] at HΦ
      simp only [hs] at hsh
      have hadd := fun W => add_any (some ⟨World.heap W |>.size, 0, none⟩) 2 2 [b, s] _ rfl (by omega) (rd2Z b s W)
      obtain ⟨q, hq⟩ : ∃ q, addS [b, s] = q := ⟨_, rfl⟩
      obtain ⟨q1, q2⟩ := q
      simp only [hq] at hadd
      rw [hq] at HΦ
      clear hok ha hs hm hq hs'
      go_enter Tryz.func47, Tryz.ntmps47
      go_wp2_with (first
        | (refine wpList_buildSl rfl 101 2 _ rfl #[(0, .int .i64 _), (1, .int .i64 _)] rfl (build2Z _ _ _) ?_)
        | (go_at_call 93; refine (hr _).mono ?_; clear hr; rintro e w1 ⟨rfl, hL1⟩; have hc1 : w1.cell? ⟨w.heap.size + 1, 1, none⟩ = some (.int .i64 r) := cell_later ((hrow.cell 1).trans rfl) hL1; have hc0 : w1.cell? ⟨w.heap.size + 1, 0, none⟩ = some (.int .i64 b) := cell_later ((hrow.cell 0).trans rfl) hL1; have hL2 := hL0.step hL1; clear hrow hL1)
        | (go_at_call 94; refine (hsh _).mono ?_; clear hsh; rintro e w2 ⟨rfl, hL3⟩; have hd0 : w2.cell? ⟨w.heap.size + 1, 0, none⟩ = some (.int .i64 b) := cell_later hc0 hL3; clear hc0)
        | (go_at_call 95; refine (hadd _).mono ?_; clear hadd; rintro e w3 ⟨rfl, hL4⟩)
        | fail)
      exact HΦ.out _ _ ⟨rfl, ((hL2.step hL3).step ((Later.refl w2).alloc _)).step hL4⟩
set_option maxRecDepth 100000 in
theorem send_fee (b r a : Int) (w : World) :
    Calls Tryz.prog 99 #[feeV b r, .int .i64 a] w fun e w' => e = .returned (.tuple #[.int .i64 (sendS b r a).1, .int .i64 (sendS b r a).2]) ∧ Below w.heap.size w w' := by
  refine Calls.post fun Φ HΦ => ?_
  have hL0 := (Later.refl w).alloc (.cells #[.int .i64 b, .int .i64 r] 42)
  have htk := fun W => take_fee b r a W
  obtain ⟨t, ht⟩ : ∃ t, takeS b r a = t := ⟨_, rfl⟩
  obtain ⟨t1, t2⟩ := t
  simp only [ht] at htk
  by_cases h0 : t2 = 0
  · subst h0
    have hS : sendS b r a = addS [a, t1] := by unfold sendS; rw [ht]; rfl
    rw [hS] at HΦ
    have hadd := fun W => add_any (some ⟨World.heap W |>.size, 0, none⟩) 2 2 [a, t1] _ rfl (by omega) (rd2Z a t1 W)
    obtain ⟨q, hq⟩ : ∃ q, addS [a, t1] = q := ⟨_, rfl⟩
    obtain ⟨q1, q2⟩ := q
    simp only [hq] at hadd
    rw [hq] at HΦ
    clear ht hS hq
    go_enter Tryz.func99, Tryz.ntmps99
    go_wp2_with (first
      | (refine wpList_buildSl rfl 101 2 _ rfl #[(0, .int .i64 _), (1, .int .i64 _)] rfl (build2Z _ _ _) ?_)
      | (go_at_call 47; refine (htk _).mono ?_; clear htk; rintro e w1 ⟨rfl, hL1⟩)
      | (go_at_call 95; refine (hadd _).mono ?_; clear hadd; rintro e w3 ⟨rfl, hL4⟩)
      | fail)
    exact HΦ.out _ _ ⟨rfl, ((hL0.step hL1).step ((Later.refl w1).alloc _)).step hL4⟩
  · have hS : sendS b r a = (0, t2) := by unfold sendS; rw [ht, if_neg h0]
    rw [hS] at HΦ
    have e1 : (t2 != 0) = true := by simpa using h0
    clear ht hS
    go_enter Tryz.func99, Tryz.ntmps99
    go_wp2_with (first
      | (go_at_call 47; refine (htk _).mono ?_; clear htk; rintro e w1 ⟨rfl, hL1⟩)
      | fail)
    exact HΦ.out _ _ ⟨rfl, hL0.step hL1⟩
end Go.Proofs.YtloiaaolnfimgaaGreat
namespace Go.Proofs.YtloiaaolnfimgaaGreat
open Go.RowKit
abbrev Fee1 := Int × Int
def feesC : List Fee1 → List Value
  | [] => []
  | f :: fs => numV f.1 :: numV f.2 :: feesC fs
theorem feesC_len : ∀ fs : List Fee1, (feesC fs).length = fs.length * 2
  | [] => rfl
  | f :: fs => by
    have := feesC_len fs
    simp only [feesC, List.length_cons, this]
    omega
theorem feesC_at : ∀ (fs : List Fee1) (k : Nat) (h : k < fs.length), (feesC fs)[k * 2]? = some (numV fs[k].1) ∧ (feesC fs)[k * 2 + 1]? = some (numV fs[k].2)
  | f :: fs, 0, _ => ⟨rfl, rfl⟩
  | f :: fs, k + 1, h => by
    have ih := feesC_at fs k (by simpa using h)
    have e1 : (k + 1) * 2 = k * 2 + 1 + 1 := by omega
    have e2 : (k + 1) * 2 + 1 = k * 2 + 1 + 1 + 1 := by omega
    rw [e2, e1]
    exact ih
theorem fees_at {w : World} {A : Option Addr} {fs : List Fee1} (h : RdV w A (feesC fs)) {k : Nat} (hk : k < fs.length) : ∃ b o, A = some ⟨b, o, none⟩ ∧ w.cell? ⟨b, o + k * 2, none⟩ = some (numV fs[k].1) ∧ w.cell? ⟨b, o + k * 2 + 1, none⟩ = some (numV fs[k].2) := by
  have hl := feesC_len fs
  obtain ⟨b, o, e, hc⟩ := h (by intro e; rw [e] at hl; simp at hl; omega)
  obtain ⟨h1, h2⟩ := feesC_at fs k hk
  refine ⟨b, o, e, ?_, ?_⟩
  · rw [hc (k * 2) (by omega), ← List.getElem?_eq_getElem, h1]
  · rw [Nat.add_assoc, hc (k * 2 + 1) (by omega), ← List.getElem?_eq_getElem, h2]
theorem infoFee : (Tryz.prog.info? 42).map (·.size) = some 2 := by kernel_rfl
theorem run_load_fee {w : World} {b o : Nat} {x y : Int} (h0 : w.cell? ⟨b, o, none⟩ = some (numV x)) (h1 : w.cell? ⟨b, o + 1, none⟩ = some (numV y)) : (Instr.loadAt 42 (.pointer (some ⟨b, o, none⟩))).run Tryz.prog w = .ok (feeV x y) w :=
  run_loadAt_mid (P := Tryz.prog) w b o 42 [numV x, numV y] _ (fun j v e => by
    match j, e with
    | 0, e => cases e; exact h0
    | 1, e => cases e; exact h1) Tryz.underlying42 rfl infoFee
def rightF (f : Fee1) : Bool := amts [f.1] && okRate f.2
set_option maxRecDepth 100000 in
theorem route1_any (f : Fee1) (w : World) :
    Calls Tryz.prog 98 #[feeV f.1 f.2] w fun e w' => e = .returned (.bool (!rightF f)) ∧ Later w w' := by
  refine Calls.post fun Φ HΦ => ?_
  have hL0 := (Later.refl w).alloc (.cells #[.int .i64 f.1, .int .i64 f.2] 42)
  have hr := fun W => right_any f.1 f.2 W
  obtain ⟨b, r⟩ := f
  unfold rightF at HΦ
  cases hb : amts [b] && okRate r with
  | false =>
    simp only [hb] at hr HΦ
    go_enter Tryz.func98, Tryz.ntmps98
    go_wp2_with (first
      | (go_at_call 93; refine (hr _).mono ?_; clear hr; rintro e w1 ⟨rfl, hL1⟩)
      | fail)
    exact HΦ.out _ _ ⟨rfl, hL0.step hL1⟩
  | true =>
    simp only [hb] at hr HΦ
    go_enter Tryz.func98, Tryz.ntmps98
    go_wp2_with (first
      | (go_at_call 93; refine (hr _).mono ?_; clear hr; rintro e w1 ⟨rfl, hL1⟩)
      | fail)
    exact HΦ.out _ _ ⟨rfl, hL0.step hL1⟩
set_option maxRecDepth 100000 in
theorem idxFee_any (A : Option Addr) (n c : Nat) (fs : List Fee1) (w : World) (hn : fs.length = n) (hm : n ≤ 9223372036854775807) (hr : RdV w A (feesC fs)) :
    Calls Tryz.prog 134 #[.slice A n c, .func (.func 98) #[] #[]] w fun e w' => (∃ k : Int, e = .returned (.int .i64 k) ∧ decide (0 ≤ k) = fs.any (fun f => !rightF f)) ∧ Later w w' := by
  refine Calls.post fun Φ HΦ => ?_
  have HN := Lib.hid hn
  clear hn
  go_enter Tryz.func134, Tryz.ntmps134
  go_wp2_with fail
  go_loopw [8] (fun t wr => ∃ k : Nat, k ≤ n ∧ t = .int .i64 k ∧ Later w wr ∧ (fs.take k).any (fun f => !rightF f) = false) (fun t _ => n - (intOf t).toNat)
  case atStart => exact ⟨0, by omega, rfl, Later.refl _, by simp⟩
  case round =>
    obtain ⟨k, hk, rfl, hL, hany⟩ := hrel
    by_cases hlt : k < n
    · have hd : decide ((k : Int) < (n : Int)) = true := decide_eq_true (by omega)
      have hd' : decide (k < n) = true := decide_eq_true hlt
      have hkl : k < fs.length := by rw [HN.out]; exact hlt
      obtain ⟨b, o, rfl, hc0, hc1⟩ := fees_at (hr.later hL) hkl
      obtain ⟨f, hf⟩ : ∃ f, fs[k] = f := ⟨_, rfl⟩
      have htk := mtake1_any (p := fun f => !rightF f) hkl
      rw [hany, hf, Bool.false_or] at htk
      rw [hf] at hc0 hc1
      have hld := run_load_fee hc0 hc1
      have hcl := fun W => route1_any f W
      cases hb : rightF f with
      | false =>
        simp only [hb] at htk hcl
        have hyes := any_take htk
        clear hany htk hf
        go_wp2_with (first
          | (go_at_call 98; refine (hcl _).mono ?_; rintro e w' ⟨rfl, hL1⟩)
          | fail)
        exact HΦ.out _ _ ⟨⟨k, rfl, by rw [hyes]; exact decide_eq_true (by omega)⟩, hL.step hL1⟩
      | true =>
        simp only [hb] at htk hcl
        clear hany hf
        go_wp2_with (first
          | (go_at_call 98; refine (hcl _).mono ?_; rintro e w' ⟨rfl, hL1⟩)
          | fail)
        go_roundw
        case rel => exact ⟨k + 1, by omega, by go_num, hL.step hL1, htk⟩
        case measure => simp [intOf]; omega
    · obtain rfl : k = n := by omega
      have hd : decide ((k : Int) < (k : Int)) = false := decide_eq_false (by omega)
      have hd' : decide (k < k) = false := decide_eq_false (by omega)
      rw [List.take_of_length_le (by rw [HN.out]; exact Nat.le_refl _)] at hany
      go_wp2_with fail
      exact HΦ.out _ _ ⟨⟨-1, rfl, by rw [hany]; rfl⟩, hL⟩
theorem containsFee_any (A : Option Addr) (n c : Nat) (fs : List Fee1) (w : World) (hn : fs.length = n) (hm : n ≤ 9223372036854775807) (hr : RdV w A (feesC fs)) :
    Calls Tryz.prog 97 #[.slice A n c, .func (.func 98) #[] #[]] w fun e w' => e = .returned (.bool (fs.any (fun f => !rightF f))) ∧ Later w w' := by
  have hi := idxFee_any A n c fs w hn hm hr
  go_enter Tryz.func97, Tryz.ntmps97
  go_wp2_with (first
    | (go_at_call 134; refine hi.mono ?_; clear hi; rintro e w' ⟨⟨k, rfl, hk⟩, hL⟩)
    | fail)
  go_ret
  exact ⟨by rw [← hk]; rfl, hL⟩
def routeFrom (a : Int) : List Fee1 → List Int × Int
  | [] => ([a], 0)
  | f :: fs => if (routeFrom a fs).2 = 0 then (if (sendS f.1 f.2 ((routeFrom a fs).1.headD 0)).2 = 0 then ((sendS f.1 f.2 ((routeFrom a fs).1.headD 0)).1 :: (routeFrom a fs).1, 0) else ([], (sendS f.1 f.2 ((routeFrom a fs).1.headD 0)).2)) else ([], (routeFrom a fs).2)
def routeS (a : Int) (fs : List Fee1) : List Int × Int := if amts [a] && !fs.any (fun f => !rightF f) then routeFrom a fs else ([], 2)
theorem routeFrom_err {a e : Int} (he : e ≠ 0) : ∀ (fs : List Fee1) (j : Nat), j ≤ fs.length → routeFrom a (fs.drop j) = ([], e) → routeFrom a fs = ([], e)
  | _, 0, _, h => h
  | [], j + 1, h, _ => absurd h (by simp)
  | f :: fs, j + 1, h, hr => by
    have := routeFrom_err he fs j (by simpa using h) hr
    simp [routeFrom, this, he]
theorem routeFrom_cons {a : Int} {fs : List Fee1} {i : Nat} (hi : i < fs.length) {x y : Int} {l : List Int} (h : routeFrom a (fs.drop (i + 1)) = (x :: l, 0)) (hs : sendS fs[i].1 fs[i].2 x = (y, 0)) : routeFrom a (fs.drop i) = (y :: x :: l, 0) := by
  rw [List.drop_eq_getElem_cons hi, routeFrom]
  simp [h, hs]
theorem routeFrom_bad {a : Int} {fs : List Fee1} {i : Nat} (hi : i < fs.length) {x z e : Int} {l : List Int} (h : routeFrom a (fs.drop (i + 1)) = (x :: l, 0)) (hs : sendS fs[i].1 fs[i].2 x = (z, e)) (he : e ≠ 0) : routeFrom a fs = ([], e) := by
  refine routeFrom_err he fs i (by omega) ?_
  rw [List.drop_eq_getElem_cons hi, routeFrom]
  simp [h, hs, he]
set_option maxRecDepth 100000 in
theorem run_make_ints (n : Nat) (hn : n ≤ 1000000) (w : World) :
    (Instr.makeSlice 101 (.int .i64 (n : Int)) (.int .i64 (n : Int))).run Tryz.prog w = .ok (.slice (some ⟨w.heap.size, 0, none⟩) n n) (w.alloc (.cells ((List.replicate n (0 : Int)).map numV).toArray 2)) := by
  obtain ⟨i, hi0, he⟩ := Option.map_eq_some_iff.1 infoZ
  injection he with hz he
  injection he with hs hb
  have h := run_make (P := Tryz.prog) w 101 2 i _ Tryz.underlying101 hi0 hz .i64 .i64 (n : Int) (n : Int) (by omega) (Int.le_refl _) (by rw [hb]; omega) (by omega)
  rw [h, Int.toNat_natCast, hs]
  congr 3
  apply Array.ext
  · simp [madeCells]
  · intro j h1 h2
    simp [madeCells, Value.cells, Nat.mod_one]
theorem set_last {i : Nat} (y : Int) (l : List Int) : ((((List.replicate (i + 1) (0 : Int)) ++ l).map numV).toArray).setIfInBounds i (numV y) = (((List.replicate i (0 : Int)) ++ y :: l).map numV).toArray := by
  rw [List.setIfInBounds_toArray, List.map_append, List.map_append, List.set_append, List.map_replicate, List.map_replicate]
  rw [if_pos (by simp), List.replicate_succ']
  rw [List.set_append, List.length_replicate, if_neg (by omega), Nat.sub_self]
  simp
theorem idxFee {b o n c i : Nat} (h : i < n) (hn : n ≤ 1000) (W : World) : (Instr.indexAt 97 (.slice (some ⟨b, o, none⟩) n c) (.int .i64 (i : Int))).run Tryz.prog W = .ok (.pointer (some ⟨b, o + i * 2, none⟩)) W := by
  have hd : decide ((i : Int) < (n : Int)) = true := decide_eq_true (by omega)
  have hd' : decide (i < n) = true := decide_eq_true h
  go_simp
theorem idxInt {b o n c i : Nat} (h : i < n) (hn : n ≤ 1001) (W : World) : (Instr.indexAt 101 (.slice (some ⟨b, o, none⟩) n c) (.int .i64 (i : Int))).run Tryz.prog W = .ok (.pointer (some ⟨b, o + i, none⟩)) W := by
  have hd : decide ((i : Int) < (n : Int)) = true := decide_eq_true (by omega)
  have hd' : decide (i < n) = true := decide_eq_true h
  go_simp
theorem mloadInt {b o : Nat} {z : Int} {W : World} (hc : W.cell? ⟨b, o, none⟩ = some (numV z)) : (Instr.loadAt 2 (.pointer (some ⟨b, o, none⟩))).run Tryz.prog W = .ok (numV z) W := by
  go_simp
theorem addInt (i : Nat) (h : i ≤ 1000) (T : TypeId) (W : World) : (binOp .add T (.int .i64 (i : Int)) (.int .i64 1)).run Tryz.prog W = .ok (.int .i64 ((i + 1 : Nat) : Int)) W := by
  go_simp
  first | exact IntWalk.i64_in _ (by omega) | (congr 1; exact IntWalk.i64_in _ (by omega))
set_option maxRecDepth 100000 in
theorem route_any (a : Int) (A : Option Addr) (n c : Nat) (fs : List Fee1) (w : World) (hn : fs.length = n) (hm : n ≤ 1000) (hr : RdV w A (feesC fs)) :
    Calls Tryz.prog 48 #[.int .i64 a, .slice A n c] w fun e w' => (∃ v, e = .returned (.tuple #[v, .int .i64 (routeS a fs).2]) ∧ ∃ B c', v = .slice B (routeS a fs).1.length c' ∧ RdV w' B ((routeS a fs).1.map numV)) ∧ Below w.heap.size w w' := by
  refine Calls.post fun Φ HΦ => ?_
  have HN := Lib.hid hn
  have hL0 := (Later.refl w).alloc (.cells #[.int .i64 a] 2)
  have hck := check_any (some ⟨w.heap.size, 0, none⟩) 1 1 [a] _ rfl (by omega) (rd1Z a w)
  have hcf := fun W (h : Later w W) => containsFee_any A n c fs W hn (by omega) (hr.later h)
  clear hn
  cases ha : amts [a] with
  | false =>
    rw [ha] at hck
    have hS : routeS a fs = ([], 2) := by unfold routeS; rw [ha]; rfl
    rw [hS] at HΦ
    clear hcf
    go_enter Tryz.func48, Tryz.ntmps48
    go_wp2_with (first
      | (refine wpList_buildSl rfl 101 1 _ rfl #[(0, .int .i64 _)] rfl (build1Z _ _) ?_)
      | (go_at_call 96; refine hck.mono ?_; clear hck; rintro e w1 ⟨rfl, hL1⟩)
      | fail)
    exact HΦ.out _ _ ⟨⟨_, rfl, none, 0, rfl, RdV.nil _ _⟩, hL0.step hL1⟩
  | true =>
    rw [ha] at hck
    cases hb : fs.any (fun f => !rightF f) with
    | true =>
      rw [hb] at hcf
      have hS : routeS a fs = ([], 2) := by unfold routeS; rw [ha, hb]; rfl
      rw [hS] at HΦ
      go_enter Tryz.func48, Tryz.ntmps48
      go_wp2_with (first
        | (refine wpList_buildSl rfl 101 1 _ rfl #[(0, .int .i64 _)] rfl (build1Z _ _) ?_)
        | (go_at_call 96; refine hck.mono ?_; clear hck; rintro e w1 ⟨rfl, hL1⟩)
        | (go_at_call 97; refine (hcf _ (hL0.step hL1)).mono ?_; rintro e w2 ⟨rfl, hL2⟩)
        | fail)
      exact HΦ.out _ _ ⟨⟨_, rfl, none, 0, rfl, RdV.nil _ _⟩, (hL0.step hL1).step hL2⟩
    | false =>
      rw [hb] at hcf
      have hS : routeS a fs = routeFrom a fs := by unfold routeS; rw [ha, hb]; rfl
      rw [hS] at HΦ
      have hmk := run_make_ints (n + 1) (by omega)
      rw [show (((n + 1 : Nat)) : Int) = (n : Int) + 1 by omega] at hmk
      have hbn : n ≤ 1000 := hm
      clear hS hb ha
      go_enter Tryz.func48, Tryz.ntmps48
      go_upto_region 4 with (first
        | (refine wpList_buildSl rfl 101 1 _ rfl #[(0, .int .i64 _)] rfl (build1Z _ _) ?_)
        | (go_at_call 96; refine hck.mono ?_; clear hck; rintro e w1 ⟨rfl, hL1⟩)
        | (go_at_call 97; refine (hcf _ (hL0.step hL1)).mono ?_; clear hcf; rintro e w2 ⟨rfl, hL2⟩)
        | fail)
      have hL3 := (hL0.step hL1).step hL2
      clear hL0 hL1 hL2 hmk
      have hrow := Row.new w2 2 ((List.replicate (n + 1) (0 : Int)).map numV).toArray
      have hcn := (hrow.cell n).trans (show _ = some (numV 0) by simp)
      have e4 := set_last (i := n) a []
      rw [List.append_nil] at e4
      have e5 : (Array.replicate (n + 1) (numV 0)).setIfInBounds n (.int .i64 a) = ((List.replicate n (0 : Int) ++ a :: []).map numV).toArray := by
        rw [← e4]
        simp
      clear hrow e4
      go_upto_region 5 with fail
      rw [show (List.replicate n (numV 0) ++ [numV a]).toArray = ((List.replicate n (0 : Int) ++ a :: []).map numV).toArray by simp]
      have hrow4 := Row.new w2 2 ((List.replicate n (0 : Int) ++ a :: []).map numV).toArray
      have hL4 := hL3.alloc (.cells ((List.replicate n (0 : Int) ++ a :: []).map numV).toArray 2)
      have hg0 := hL3.size
      obtain ⟨g, hg⟩ : ∃ g, w2.heap.size = g := ⟨_, rfl⟩
      rw [hg] at hrow4 hg0 ⊢
      clear hL3 hcn e5 hg
      generalize w2.alloc (.cells ((List.replicate n (0 : Int) ++ a :: []).map numV).toArray 2) = w3 at *
      have HG0 := Lib.hid hg0
      clear hg0
      go_wp2_with fail
      go_loopw [30] (fun t wr => ∃ (k i : Nat) (x : Int) (l : List Int), i + k = n ∧ t = .int .i64 k ∧ Later w wr ∧ routeFrom a (fs.drop i) = (x :: l, 0) ∧ l.length = k ∧ Row wr g 2 ((List.replicate i (0 : Int) ++ x :: l).map numV).toArray) (fun t _ => n - (intOf t).toNat)
      case atStart => exact ⟨0, n, a, [], by omega, rfl, hL4, by rw [List.drop_of_length_le (by rw [HN.out]; exact Nat.le_refl _)]; rfl, rfl, hrow4⟩
      case round =>
        clear hrow4 hL4
        obtain ⟨k, j, x, l, hjk, rfl, hL, hrf, hll, hrow⟩ := hrel
        by_cases hlt : k < n
        · obtain ⟨i, rfl⟩ : ∃ i, j = i + 1 := ⟨j - 1, by omega⟩
          have hd : decide ((k : Int) < (n : Int)) = true := decide_eq_true (by omega)
          have hd' : decide (k < n) = true := decide_eq_true hlt
          have hi1 : (n : Int) - 1 - (k : Int) = (i : Int) := by omega
          have hin : i < n := by omega
          have hkl : i < fs.length := by rw [HN.out]; exact hin
          obtain ⟨b, o, rfl, hc0, hc1⟩ := fees_at (hr.later hL) hkl
          obtain ⟨f, hf⟩ : ∃ f, fs[i] = f := ⟨_, rfl⟩
          rw [hf] at hc0 hc1
          have hcx : wr.cell? ⟨g, i + 1, none⟩ = some (numV x) := (hrow.cell (i + 1)).trans (by simp)
          have hci : wr.cell? ⟨g, i, none⟩ = some (numV 0) := (hrow.cell i).trans (by rw [List.getElem?_toArray, List.getElem?_map, List.getElem?_append_left (by simp)]; simp)
          have HRF := Lib.hid hrf
          have HLL := Lib.hid hll
          have HJK := Lib.hid hjk
          clear hrf hll hjk
          go_upto_region 9 with fail
          obtain ⟨s, hs⟩ : ∃ s, sendS f.1 f.2 x = s := ⟨_, rfl⟩
          obtain ⟨y, e⟩ := s
          have hsd := fun W => send_fee f.1 f.2 x W
          simp only [hs] at hsd
          have HS := Lib.hid hs
          clear hs
          refine wp_region_list [Pr.eq (.slice (some ⟨b, o, none⟩) n c), Pr.eq (.int .i64 (i : Int)), Pr.eq (.pointer (some ⟨b, o + i * 2, none⟩)), Pr.eq (feeV f.1 f.2), Pr.eq (.slice (some ⟨g, 0, none⟩) (n + 1) (n + 1)), Pr.eq (.int .i64 (i : Int)), Pr.eq (.int .i64 ((i + 1 : Nat) : Int)), Pr.eq (.pointer (some ⟨g, 0 + (i + 1), none⟩)), Pr.eq (numV x), Pr.eq (.tuple #[.int .i64 y, .int .i64 e]), Pr.eq (.tuple #[.int .i64 y, .int .i64 e]), Pr.eq (.int .i64 y), Pr.eq (.int .i64 e), Pr.eq (.int .i64 y), Pr.eq (.int .i64 e)] (by kernel_rfl) (by kernel_rfl) (by kernel_rfl) (by kernel_rfl) ⟨?_, ?_, ?_, ?_, ?_, ?_, ?_, ?_, ?_, ?_, ?_, ?_, ?_, ?_, ?_, trivial⟩ ?_
          · exact fun ac W hL he => stepOk_want rfl (op_move rfl (he.keep (.tmp 1) (by kernel_rfl)))
          · exact fun ac W hL he => stepOk_want rfl (op_move rfl (he.keep (.tmp 8) (by kernel_rfl)))
          · exact fun ac W hL he => stepOk_want rfl (op_idx rfl (he.get 0 39 (by kernel_rfl) rfl) (he.get 1 40 (by kernel_rfl) rfl) (idxFee hin hbn W) rfl)
          · exact fun ac W hL he => stepOk_want rfl (op_load rfl (he.get 2 41 (by kernel_rfl) rfl) (run_load_fee (cell_later hc0 hL) (cell_later hc1 hL)) rfl)
          · exact fun ac W hL he => stepOk_want rfl (op_move rfl (he.keep (.tmp 6) (by kernel_rfl)))
          · exact fun ac W hL he => stepOk_want rfl (op_move rfl (he.keep (.tmp 8) (by kernel_rfl)))
          · exact fun ac W hL he => stepOk_want rfl (op_binOp rfl (he.get 5 44 (by kernel_rfl) rfl) rfl rfl (addInt i (by omega) _ W) rfl)
          · exact fun ac W hL he => stepOk_want rfl (op_idx rfl (he.get 4 43 (by kernel_rfl) rfl) (he.get 6 45 (by kernel_rfl) rfl) (idxInt (by omega) (by omega) W) rfl)
          · exact fun ac W hL he => stepOk_want rfl (op_load rfl (he.get 7 46 (by kernel_rfl) rfl) (mloadInt (by rw [Nat.zero_add]; exact cell_later hcx hL)) rfl)
          · intro ac W hL he; refine stepOk_want rfl ?_; have e0 : ac.eval (.tmp 42) = feeV f.1 f.2 := (he.get 3 42 (by kernel_rfl) rfl); have e1 : ac.eval (.tmp 47) = numV x := (he.get 8 47 (by kernel_rfl) rfl); exact op_callF (vs := #[feeV f.1 f.2, numV x]) rfl (by simp only [List.map_toArray, List.map_cons, List.map_nil, e0, e1]) (enters_of Tryz.func99 (by kernel_rfl) rfl) ((hsd W).mono fun e W' ⟨he', hb⟩ => ⟨_, he', hb, rfl⟩)
          · exact fun ac W hL he => stepOk_want rfl (op_move rfl (he.get 9 48 (by kernel_rfl) rfl))
          · exact fun ac W hL he => stepOk_want rfl (op_extract rfl (he.get 10 38 (by kernel_rfl) rfl) rfl rfl)
          · exact fun ac W hL he => stepOk_want rfl (op_extract rfl (he.get 10 38 (by kernel_rfl) rfl) rfl rfl)
          · exact fun ac W hL he => stepOk_want rfl (op_assign rfl (he.get 11 49 (by kernel_rfl) rfl))
          · exact fun ac W hL he => stepOk_want rfl (op_assign rfl (he.get 12 50 (by kernel_rfl) rfl))
          intro xs W hLW hxs
          have h9 : xs 13 = .int .i64 y := hxs 13 (by decide)
          have h10 : xs 14 = .int .i64 e := hxs 14 (by decide)
          clear hxs
          simp only [putL, Nat.reduceAdd, Act.put, List.setIfInBounds_toArray, List.set_cons_succ, List.set_cons_zero, h9, h10]
          clear h9 h10
          have hLW' := hL.step hLW
          have hrowW := hrow.later hLW
          have hci' := cell_later hci hLW
          have hfz := hrowW.frozen i
          have HFF := Lib.hid hf
          clear hsd hc0 hc1 hcx hci hrow hL hLW hf
          by_cases he : e = 0
          · subst he
            go_wp2_with fail
            go_roundw
            case rel =>
              refine ⟨k + 1, i, y, x :: l, by have := HJK.out; omega, by go_num, ?_, ?_, by have := HLL.out; simp; omega, ?_⟩
              · exact Below.setCell hLW' (by exact HG0.out) _
              · have hfk := HRF.out
                have hff := HFF.out
                subst hff
                exact routeFrom_cons hkl hfk HS.out
              · have := hrowW.set i (numV y)
                rwa [set_last] at this
            case measure => simp [intOf]; omega
          · have e1 : (e != 0) = true := by simpa using he
            go_wp2_with fail
            have hR : routeFrom a fs = ([], e) := by
              have hff := HFF.out
              subst hff
              exact routeFrom_bad hkl HRF.out HS.out he
            rw [hR] at HΦ
            exact HΦ.out _ _ ⟨⟨_, rfl, none, 0, rfl, RdV.nil _ _⟩, hLW'⟩
        · obtain rfl : k = n := by omega
          obtain rfl : j = 0 := by omega
          have hd : decide ((k : Int) < (k : Int)) = false := decide_eq_false (by omega)
          have hd' : decide (k < k) = false := decide_eq_false (by omega)
          rw [List.drop_zero] at hrf
          rw [hrf] at HΦ
          have hrd : RdV wr (some ⟨g, 0, none⟩) ((x :: l).map numV) := RdV.row hrow
          have HLL := Lib.hid hll
          clear hrf hrow hll
          go_wp2_with fail
          exact HΦ.out _ _ ⟨⟨_, rfl, some ⟨g, 0, none⟩, k + 1, by rw [List.length_cons, HLL.out], hrd⟩, hL⟩
end Go.Proofs.YtloiaaolnfimgaaGreat
namespace Go.Proofs.YtloiaaolnfimgaaGreat
open Go.RowKit Go.ChangeShapes Go.WideShapes Go.ChangeAt
theorem open_fee {H : Type} {enc : TypeId × Value → H} {P : Program} {w : World} {r : Reach} {b0 base : Nat} {sp : Nat → Bool} {held : Bool} {t : TypeId} {f0 f1 : Field} {v : Value} {d : DataW H} {ps : List MemPlace} (hs : P.underlying t = some (.struct #[f0, f1])) (hone : Deep.oneCellFields P #[f0, f1] = true) (hC : P.cellsOf t = 2)
    (u0 : P.underlying f0.type = some (.int .i64)) (u1 : P.underlying f1.type = some (.int .i64)) (hv : Value.okWide P w r b0 t v) (h : DataW.Trod enc P w base sp held t v d ps) : ∃ x y : Int, v = feeV x y := by
  obtain ⟨v0, v1, y0, y1, n, rfl, _, _, h0, h1⟩ := Joins.open_agg2 hs hone hC hv h
  obtain ⟨z0, e1, _, _⟩ := DataW.trod_int u0 h0
  obtain ⟨z1, e2, _, _⟩ := DataW.trod_int u1 h1
  injection e1 with e1
  injection e2 with e2
  subst e1 e2
  exact ⟨z0, z1, rfl⟩
structure InFees (w : World) (A : Option Addr) (n c : Nat) (l : List Fee1) : Prop where
  len : l.length = n
  cap : n ≤ c
  most : c ≤ maxLen
  rd : RdV w A (feesC l)
theorem rdFees_of {w : World} {b o : Nat} : ∀ (fs : List Fee1), (∀ i (h : i < fs.length), w.cell? ⟨b, o + i * 2, none⟩ = some (numV fs[i].1) ∧ w.cell? ⟨b, o + i * 2 + 1, none⟩ = some (numV fs[i].2)) → RdV w (some ⟨b, o, none⟩) (feesC fs) := fun fs h _ =>
  ⟨b, o, rfl, fun j hj => by
    have hl := feesC_len fs
    have hk : j / 2 < fs.length := by omega
    obtain ⟨h1, h2⟩ := feesC_at fs (j / 2) hk
    obtain ⟨c1, c2⟩ := h (j / 2) hk
    rcases Nat.mod_two_eq_zero_or_one j with e | e
    · have ej : j = j / 2 * 2 := by omega
      rw [show o + j = o + j / 2 * 2 by omega, c1, ← h1, List.getElem?_eq_getElem (by omega)]
      congr 2
      exact ej.symm
    · have ej : j = j / 2 * 2 + 1 := by omega
      rw [show o + j = o + j / 2 * 2 + 1 by omega, c2, ← h2, List.getElem?_eq_getElem (by omega)]
      congr 2
      exact ej.symm⟩
theorem in_fees {H : Type} {enc : TypeId × Value → H} {P : Program} {w : World} {t e : TypeId} {held : Bool} {fuel len cap : Nat} {A : Option Addr} {x : DataW H × List MemPlace} {f0 f1 : Field} (ht : P.underlying t = some (.slice e)) (he : P.underlying e = some (.struct #[f0, f1])) (ce : P.cellsOf e = 2)
    (o0 : f0.offset = 0) (o1 : f1.offset = 1) (c0 : P.cellsOf f0.type = 1) (c1 : P.cellsOf f1.type = 1) (u0 : P.underlying f0.type = some (.int .i64)) (u1 : P.underlying f1.type = some (.int .i64))
    (h : DataW.trod enc P w 0 (fun _ => true) held fuel t [.slice A len cap] = some x) : ∃ fs, InFees w A len cap fs := by
  rcases Deep.open_slice_pairs ht he ce o0 o1 c0 c1 h with ⟨hcs, _⟩ | ⟨ad, l, c, m, k, V0, V1, D0, D1, P0, P1, hcs, _, hl, hm, hmm, _, hr⟩
  · injection hcs with h1
    injection h1 with h1 h2 h3
    subst h1 h2 h3
    exact ⟨[], rfl, Nat.le_refl _, Nat.zero_le _, RdV.nil _ _⟩
  · injection hcs with h1
    injection h1 with h1 h2 h3
    subst h1 h2 h3
    have hmc : m = cap := by rw [hmm]; rfl
    have each : ∀ i, ∃ s : Fee1, i < len → V0 i = numV s.1 ∧ V1 i = numV s.2 := fun i => by
      by_cases hi : i < len
      · obtain ⟨_, _, h3, h4⟩ := hr i (by omega)
        obtain ⟨s, e1, _, hs⟩ := DataW.trod_int u0 h3
        obtain ⟨z, e2, _, hz⟩ := DataW.trod_int u1 h4
        injection e1 with e1
        injection e2 with e2
        exact ⟨(s, z), fun _ => ⟨e1, e2⟩⟩
      · exact ⟨(0, 0), fun h => absurd h hi⟩
    obtain ⟨f, hf⟩ := Classical.axiomOfChoice each
    refine ⟨(List.range len).map f, by simp, hl, hm, ?_⟩
    by_cases h0 : 0 < len
    · obtain ⟨b, o, rfl⟩ : ∃ b o, ad = ⟨b, o, none⟩ := ⟨_, _, addr_none (show w.cell? ad = some _ from (hr 0 (by omega)).1)⟩
      refine rdFees_of _ fun i hi => ?_
      have hi' : i < len := by simpa using hi
      obtain ⟨h1, h2, _, _⟩ := hr i (by omega)
      obtain ⟨e1, e2⟩ := hf i hi'
      rw [addr_add] at h1 h2
      rw [e1] at h1
      rw [e2] at h2
      simp only [List.getElem_map, List.getElem_range]
      exact ⟨h1, by rw [Nat.add_assoc]; exact h2⟩
    · have : len = 0 := by omega
      subst this
      exact RdV.nil _ _
set_option maxRecDepth 100000 in
theorem refFee_any (b r : Int) (w : World) : Calls Tryz.prog 51 #[feeV b r] w fun e w' => e = .returned (.bool (amts [b] && okRate r)) ∧ Later w w' := by
  refine Calls.post fun Φ HΦ => ?_
  have hL0 := (Later.refl w).alloc (.cells #[.int .i64 b, .int .i64 r] 42)
  have h1 := fun W => right5_any b W
  have h2 := fun W => rate5_any r W
  rw [amts_one] at HΦ
  cases hb : bad maxAmt b with
  | true =>
    rw [hb] at h1 HΦ
    go_enter Tryz.func51, Tryz.ntmps51
    go_wp2_with (first
      | (go_at_call 50; refine (h1 _).mono ?_; clear h1; rintro e w1 ⟨rfl, rfl⟩)
      | fail)
    exact HΦ.out _ _ ⟨rfl, hL0⟩
  | false =>
    rw [hb] at h1 HΦ
    go_enter Tryz.func51, Tryz.ntmps51
    go_wp2_with (first
      | (go_at_call 50; refine (h1 _).mono ?_; clear h1; rintro e w1 ⟨rfl, rfl⟩)
      | (go_at_call 101; refine (h2 _).mono ?_; clear h2; rintro e w1 ⟨rfl, rfl⟩)
      | fail)
    exact HΦ.out _ _ ⟨rfl, hL0⟩
theorem share_ok {a r : Int} (h1 : amts [a] = true) (h2 : okRate r = true) : shareS a r = (a * r / 1000000, 0) := by simp [shareS, h1, h2]
set_option maxRecDepth 100000 in
theorem mrefTake_any (b r a : Int) (w : World) :
    Calls Tryz.prog 135 #[feeV b r, .int .i64 a] w fun e w' => e = .returned (.tuple #[.int .i64 (takeS b r a).1, .int .i64 (takeS b r a).2]) ∧ Later w w' := by
  refine Calls.post fun Φ HΦ => ?_
  have hL0 := (Later.refl w).alloc (.cells #[.int .i64 b, .int .i64 r] 42)
  have hf := fun W => refFee_any b r W
  have h1 := fun W => right5_any a W
  have hrow := Row.new w 42 #[.int .i64 b, .int .i64 r]
  simp only [← amts_one] at h1
  cases ha : amts [b] && okRate r with
  | false =>
    have hS : takeS b r a = (0, 2) := by unfold takeS; rw [ha]; rfl
    rw [hS] at HΦ
    rw [ha] at hf
    clear hrow
    go_enter Tryz.func135, Tryz.ntmps135
    go_wp2_with (first
      | (go_at_call 51; refine (hf _).mono ?_; clear hf; rintro e w1 ⟨rfl, hL1⟩)
      | fail)
    exact HΦ.out _ _ ⟨rfl, hL0.step hL1⟩
  | true =>
    rw [ha] at hf
    have hok : okRate r = true := by rw [Bool.and_eq_true] at ha; exact ha.2
    cases hm : amts [a] with
    | false =>
      have hs : shareS a r = (0, 2) := by simp [shareS, hm]
      have hS : takeS b r a = (0, 2) := by unfold takeS; rw [ha, hs]; rfl
      rw [hS] at HΦ
      rw [hm] at h1
      clear hrow
      go_enter Tryz.func135, Tryz.ntmps135
      go_wp2_with (first
        | (go_at_call 51; refine (hf _).mono ?_; clear hf; rintro e w1 ⟨rfl, hL1⟩)
        | (go_at_call 50; refine (h1 _).mono ?_; clear h1; rintro e w2 ⟨rfl, rfl⟩)
        | fail)
      exact HΦ.out _ _ ⟨rfl, hL0.step hL1⟩
    | true =>
      obtain ⟨s, hs'⟩ : ∃ s, a * r / 1000000 = s := ⟨_, rfl⟩
      have hs : shareS a r = (s, 0) := by rw [share_ok hm hok, hs']
      have hS : takeS b r a = addS [b, s] := by unfold takeS; rw [ha, hs]; rfl
      rw [hS] at HΦ
      rw [hm] at h1
      have hsh := fun W => refShare_any a r W
      rw [hs] at hsh
      have hadd := fun W => refAdd_any (some ⟨World.heap W |>.size, 0, none⟩) 2 2 [b, s] _ rfl (by omega) (rd2Z b s W)
      generalize addS [b, s] = q at *
      obtain ⟨q1, q2⟩ := q
      clear hok ha hs hm hs' hS
      go_enter Tryz.func135, Tryz.ntmps135
      go_wp2_with (first
        | (refine wpList_buildSl rfl 101 2 _ rfl #[(0, .int .i64 _), (1, .int .i64 _)] rfl (build2Z _ _ _) ?_)
        | (go_at_call 51; refine (hf _).mono ?_; clear hf; rintro e w1 ⟨rfl, hL1⟩; have c0 : w1.cell? ⟨w.heap.size, 0, none⟩ = some (.int .i64 b) := cell_later ((hrow.cell 0).trans rfl) hL1; have c1 : w1.cell? ⟨w.heap.size, 1, none⟩ = some (.int .i64 r) := cell_later ((hrow.cell 1).trans rfl) hL1; have hL2 := hL0.step hL1; clear hrow hL1 hL0)
        | (go_at_call 50; refine (h1 _).mono ?_; clear h1; rintro e w2 ⟨rfl, rfl⟩)
        | (go_at_call 166; refine (hsh _).mono ?_; clear hsh; rintro e w2 ⟨rfl, rfl⟩)
        | (go_at_call 136; refine (hadd _).mono ?_; clear hadd; rintro e w3 ⟨rfl, rfl⟩)
        | fail)
      exact HΦ.out _ _ ⟨rfl, hL2.alloc _⟩
set_option maxRecDepth 100000 in
theorem refSend_any (b r a : Int) (w : World) :
    Calls Tryz.prog 102 #[feeV b r, .int .i64 a] w fun e w' => e = .returned (.tuple #[.int .i64 (sendS b r a).1, .int .i64 (sendS b r a).2]) ∧ Later w w' := by
  refine Calls.post fun Φ HΦ => ?_
  have hL0 := (Later.refl w).alloc (.cells #[.int .i64 b, .int .i64 r] 42)
  have htk := fun W => mrefTake_any b r a W
  obtain ⟨t, ht⟩ : ∃ t, takeS b r a = t := ⟨_, rfl⟩
  obtain ⟨t1, t2⟩ := t
  simp only [ht] at htk
  by_cases h0 : t2 = 0
  · subst h0
    have hS : sendS b r a = addS [a, t1] := by unfold sendS; rw [ht]; rfl
    rw [hS] at HΦ
    have hadd := fun W => refAdd_any (some ⟨World.heap W |>.size, 0, none⟩) 2 2 [a, t1] _ rfl (by omega) (rd2Z a t1 W)
    generalize addS [a, t1] = q at *
    obtain ⟨q1, q2⟩ := q
    clear ht hS
    go_enter Tryz.func102, Tryz.ntmps102
    go_wp2_with (first
      | (refine wpList_buildSl rfl 101 2 _ rfl #[(0, .int .i64 _), (1, .int .i64 _)] rfl (build2Z _ _ _) ?_)
      | (go_at_call 135; refine (htk _).mono ?_; clear htk; rintro e w1 ⟨rfl, hL1⟩)
      | (go_at_call 136; refine (hadd _).mono ?_; clear hadd; rintro e w3 ⟨rfl, rfl⟩)
      | fail)
    exact HΦ.out _ _ ⟨rfl, (hL0.step hL1).alloc _⟩
  · have hS : sendS b r a = (0, t2) := by unfold sendS; rw [ht, if_neg h0]
    rw [hS] at HΦ
    have e1 : (t2 != 0) = true := by simpa using h0
    clear ht hS
    go_enter Tryz.func102, Tryz.ntmps102
    go_wp2_with (first
      | (go_at_call 135; refine (htk _).mono ?_; clear htk; rintro e w1 ⟨rfl, hL1⟩)
      | fail)
    exact HΦ.out _ _ ⟨rfl, hL0.step hL1⟩
end Go.Proofs.YtloiaaolnfimgaaGreat
namespace Go.Proofs.YtloiaaolnfimgaaGreat
open Go.RowKit Go.ChangeShapes Go.WideShapes Go.ChangeAt
theorem idxI0 {b o n c : Nat} (hn : n ≤ 1000) (W : World) : (Instr.indexAt 101 (.slice (some ⟨b, o, none⟩) (n + 1) c) (.int .i64 0)).run Tryz.prog W = .ok (.pointer (some ⟨b, o, none⟩)) W := by
  have hd : decide ((0 : Int) < ((n + 1 : Nat) : Int)) = true := decide_eq_true (by omega)
  have hd' : decide (0 < n + 1) = true := decide_eq_true (by omega)
  go_simp
theorem build1Z' (x : Int) (W : World) : (Instr.buildSlice 101 1 #[(0, numV x)]).run Tryz.prog W = .ok (.slice (some ⟨W.heap.size, 0, none⟩) 1 1) (W.alloc (.cells #[numV x] 2)) := build1Z x W
set_option maxRecDepth 100000 in
theorem refRoute_any (a : Int) (A : Option Addr) (n c : Nat) (fs : List Fee1) (w : World) (hn : fs.length = n) (hm : n ≤ 1000) (hr : RdV w A (feesC fs)) :
    Calls Tryz.prog 52 #[.int .i64 a, .slice A n c] w fun e w' => (∃ v, e = .returned (.tuple #[v, .int .i64 (routeS a fs).2]) ∧ ∃ B c', v = .slice B (routeS a fs).1.length c' ∧ RdV w' B ((routeS a fs).1.map numV)) ∧ Below w.heap.size w w' := by
  refine Calls.post fun Φ HΦ => ?_
  have HN := Lib.hid hn
  have h1 := fun W => right5_any a W
  simp only [← amts_one] at h1
  cases ha : amts [a] with
  | false =>
    rw [ha] at h1
    have hS : routeS a fs = ([], 2) := by unfold routeS; rw [ha]; rfl
    rw [hS] at HΦ
    go_enter Tryz.func52, Tryz.ntmps52
    go_wp2_with (first
      | (go_at_call 50; refine (h1 _).mono ?_; clear h1; rintro e w1 ⟨rfl, rfl⟩)
      | fail)
    exact HΦ.out _ _ ⟨⟨_, rfl, none, 0, rfl, RdV.nil _ _⟩, Later.refl _⟩
  | true =>
    rw [ha] at h1
    have HA := Lib.hid ha
    clear hn ha
    go_enter Tryz.func52, Tryz.ntmps52
    go_wp2_with (first
      | (go_at_call 50; refine (h1 _).mono ?_; clear h1; rintro e w1 ⟨rfl, rfl⟩)
      | fail)
    go_loopw [6] (fun t wr => ∃ k : Nat, k ≤ n ∧ t = .int .i64 k ∧ Later w wr ∧ (fs.take k).any (fun f => !rightF f) = false) (fun t _ => n - (intOf t).toNat)
    case atStart => exact ⟨0, by omega, rfl, Later.refl _, by simp⟩
    case round =>
      obtain ⟨k, hk, rfl, hL, hany⟩ := hrel
      by_cases hlt : k < n
      · have hd : decide ((k : Int) < (n : Int)) = true := decide_eq_true (by omega)
        have hd' : decide (k < n) = true := decide_eq_true hlt
        have hkl : k < fs.length := by rw [HN.out]; exact hlt
        obtain ⟨b, o, rfl, hc0, hc1⟩ := fees_at (hr.later hL) hkl
        obtain ⟨f, hf⟩ : ∃ f, fs[k] = f := ⟨_, rfl⟩
        have htk := mtake1_any (p := fun f => !rightF f) hkl
        rw [hany, hf, Bool.false_or] at htk
        rw [hf] at hc0 hc1
        have hcl := fun W => refFee_any f.1 f.2 W
        rw [show (amts [f.1] && okRate f.2) = rightF f from rfl] at hcl
        cases hb : rightF f with
        | false =>
          rw [hb] at hcl
          rw [hb] at htk
          have hyes := any_take htk
          have hS : routeS a fs = ([], 2) := by unfold routeS; rw [HA.out, hyes]; rfl
          rw [hS] at HΦ
          clear hany htk hf hyes hS
          go_wp2_with (first
            | (go_at_call 51; refine (hcl _).mono ?_; rintro e w' ⟨rfl, hL1⟩)
            | fail)
          exact HΦ.out _ _ ⟨⟨_, rfl, none, 0, rfl, RdV.nil _ _⟩, hL.step hL1⟩
        | true =>
          rw [hb] at hcl
          rw [hb] at htk
          clear hany hf
          go_wp2_with (first
            | (go_at_call 51; refine (hcl _).mono ?_; rintro e w' ⟨rfl, hL1⟩)
            | fail)
          go_roundw
          case rel => exact ⟨k + 1, by omega, by go_num, hL.step hL1, htk⟩
          case measure => simp [intOf]; omega
      · obtain rfl : k = n := by omega
        have hd : decide ((k : Int) < (k : Int)) = false := decide_eq_false (by omega)
        have hd' : decide (k < k) = false := decide_eq_false (by omega)
        rw [List.take_of_length_le (by rw [HN.out]; exact Nat.le_refl _)] at hany
        have hS : routeS a fs = routeFrom a fs := by unfold routeS; rw [HA.out, hany]; rfl
        rw [hS] at HΦ
        have hr' := hr.later hL
        have ho := own1Z a wr w.heap.size hL.size
        clear hany hS hlt hk hr
        have hLa := hL.alloc (.cells #[.int .i64 a] 2)
        have hdn : IntKind.i64.wrap ((k : Int) - 1) = (k : Int) - 1 := IntWalk.i64_in _ (by omega)
        have hrz := rd1Z a wr
        obtain ⟨g, hg⟩ : ∃ g, wr.heap.size = g := ⟨_, rfl⟩
        rw [hg] at hrz
        go_wp2_with (first
          | (refine wpList_buildSl rfl 101 1 _ rfl #[(0, .int .i64 _)] rfl (build1Z _ _) ?_)
          | fail)
        have hfd := hr'.later ((Later.refl wr).alloc (.cells #[.int .i64 a] 2))
        clear ho hdn hg hd hd' hL hr'
        generalize wr.alloc (.cells #[.int .i64 a] 2) = w3 at *
        go_loopw [7, 8] (fun t u wq => ∃ (j : Nat) (x z : Int) (l : List Int) (B : Option Addr) (m d : Nat), j + m = k ∧ z = (j : Int) - 1 ∧ u = .int .i64 z ∧ t = .slice B (m + 1) d ∧ l.length = m ∧ Later w3 wq ∧ routeFrom a (fs.drop j) = (x :: l, 0) ∧ RdV wq B ((x :: l).map numV)) (fun _ u _ => ((intOf u) + 1).toNat)
        case atStart => exact ⟨k, a, _, [], _, 0, _, by omega, rfl, rfl, rfl, rfl, Later.refl _, by rw [List.drop_of_length_le (by rw [HN.out]; exact Nat.le_refl _)]; rfl, hrz⟩
        case round =>
          obtain ⟨j, x, z, l, B, m, d, hjm, hz, rfl, rfl, hlm, hL, hrf, hrd⟩ := hrel
          obtain ⟨b2, o2, rfl, hcx⟩ := hrd.at_ (k := 0) (by simp)
          rw [Nat.add_zero] at hcx
          have hcx' : wr.cell? ⟨b2, o2, none⟩ = some (numV x) := hcx
          clear hcx
          by_cases hj : j = 0
          · subst hj
            have hd : decide (0 ≤ z) = false := decide_eq_false (by omega)
            rw [List.drop_zero] at hrf
            rw [hrf] at HΦ
            have HLM := Lib.hid hlm
            clear hrf hlm hz
            go_wp2_with fail
            exact HΦ.out _ _ ⟨⟨_, rfl, some ⟨b2, o2, none⟩, d, by rw [List.length_cons, HLM.out], hrd⟩, hLa.step hL⟩
          · obtain ⟨i, rfl⟩ : ∃ i, j = i + 1 := ⟨j - 1, by omega⟩
            have hzi : z = (i : Int) := by omega
            subst hzi
            have hd : decide (0 ≤ (i : Int)) = true := decide_eq_true (by omega)
            have hin : i < k := by omega
            have hkl : i < fs.length := by rw [HN.out]; exact hin
            obtain ⟨b, o, rfl, hc0, hc1⟩ := fees_at (hfd.later hL) hkl
            obtain ⟨f, hf⟩ : ∃ f, fs[i] = f := ⟨_, rfl⟩
            rw [hf] at hc0 hc1
            have HFF := Lib.hid hf
            have HRF := Lib.hid hrf
            have HLM := Lib.hid hlm
            have HJM := Lib.hid hjm
            have hmb : m ≤ 1000 := by omega
            obtain ⟨s, hs⟩ : ∃ s, sendS f.1 f.2 x = s := ⟨_, rfl⟩
            obtain ⟨y, e⟩ := s
            have hsd := fun W => refSend_any f.1 f.2 x W
            simp only [hs] at hsd
            have HS := Lib.hid hs
            have hbn : k ≤ 1000 := hm
            clear hf hrf hlm hjm hs hz hj hrz
            go_upto_region 12 with fail
            refine wp_region_list [Pr.eq (.slice (some ⟨b, o, none⟩) k c), Pr.eq (.int .i64 (i : Int)), Pr.eq (.pointer (some ⟨b, o + i * 2, none⟩)), Pr.eq (feeV f.1 f.2), Pr.eq (.slice (some ⟨b2, o2, none⟩) (m + 1) d), Pr.eq (.pointer (some ⟨b2, o2, none⟩)), Pr.eq (numV x), Pr.eq (.tuple #[.int .i64 y, .int .i64 e]), Pr.eq (.tuple #[.int .i64 y, .int .i64 e]), Pr.eq (.int .i64 y), Pr.eq (.int .i64 e), Pr.eq (.int .i64 y), Pr.eq (.int .i64 e)] (by kernel_rfl) (by kernel_rfl) (by kernel_rfl) (by kernel_rfl) ⟨?_, ?_, ?_, ?_, ?_, ?_, ?_, ?_, ?_, ?_, ?_, ?_, ?_, trivial⟩ ?_
            · exact fun ac W hL he => stepOk_want rfl (op_move rfl (he.keep (.tmp 1) (by kernel_rfl)))
            · exact fun ac W hL he => stepOk_want rfl (op_move rfl (he.keep (.tmp 8) (by kernel_rfl)))
            · exact fun ac W hL he => stepOk_want rfl (op_idx rfl (he.get 0 36 (by kernel_rfl) rfl) (he.get 1 37 (by kernel_rfl) rfl) (idxFee hin hbn W) rfl)
            · exact fun ac W hL he => stepOk_want rfl (op_load rfl (he.get 2 38 (by kernel_rfl) rfl) (run_load_fee (cell_later hc0 hL) (cell_later hc1 hL)) rfl)
            · exact fun ac W hL he => stepOk_want rfl (op_move rfl (he.keep (.tmp 7) (by kernel_rfl)))
            · exact fun ac W hL he => stepOk_want rfl (op_idx rfl (he.get 4 40 (by kernel_rfl) rfl) rfl (idxI0 hmb W) rfl)
            · exact fun ac W hL he => stepOk_want rfl (op_load rfl (he.get 5 41 (by kernel_rfl) rfl) (mloadInt (cell_later hcx' hL)) rfl)
            · intro ac W hL he; refine stepOk_want rfl ?_; have e0 : ac.eval (.tmp 39) = feeV f.1 f.2 := (he.get 3 39 (by kernel_rfl) rfl); have e1 : ac.eval (.tmp 42) = numV x := (he.get 6 42 (by kernel_rfl) rfl); exact op_callF (vs := #[feeV f.1 f.2, numV x]) rfl (by simp only [List.map_toArray, List.map_cons, List.map_nil, e0, e1]) (enters_of Tryz.func102 (by kernel_rfl) rfl) ((hsd W).mono fun e W' ⟨he', hb⟩ => ⟨_, he', hb, rfl⟩)
            · exact fun ac W hL he => stepOk_want rfl (op_move rfl (he.get 7 43 (by kernel_rfl) rfl))
            · exact fun ac W hL he => stepOk_want rfl (op_extract rfl (he.get 8 35 (by kernel_rfl) rfl) rfl rfl)
            · exact fun ac W hL he => stepOk_want rfl (op_extract rfl (he.get 8 35 (by kernel_rfl) rfl) rfl rfl)
            · exact fun ac W hL he => stepOk_want rfl (op_assign rfl (he.get 9 44 (by kernel_rfl) rfl))
            · exact fun ac W hL he => stepOk_want rfl (op_assign rfl (he.get 10 45 (by kernel_rfl) rfl))
            intro xs W hLW hxs
            have h9 : xs 11 = .int .i64 y := hxs 11 (by decide)
            have h10 : xs 12 = .int .i64 e := hxs 12 (by decide)
            clear hxs
            simp only [putL, Nat.reduceAdd, Act.put, List.setIfInBounds_toArray, List.set_cons_succ, List.set_cons_zero, h9, h10]
            clear h9 h10
            have hLW' := hL.step hLW
            have hrdW := hrd.later hLW
            clear hsd hc0 hc1 hcx' hrd hL hLW
            by_cases he : e = 0
            · subst he
              have hown := own1Z y W w3.heap.size hLW'.size
              have hrdW' := hrdW.later ((Later.refl W).alloc (.cells #[.int .i64 y] 2))
              have hdn : IntKind.i64.wrap ((i : Int) - 1) = (i : Int) - 1 := IntWalk.i64_in _ (by omega)
              have hll : (x :: l).length = m + 1 := by rw [List.length_cons, HLM.out]
              have hLX := hLW'.alloc (.cells #[.int .i64 y] 2)
              have hsx := hLX.size
              go_wp2_with (first
                | (refine wpList_buildSl rfl 101 1 _ rfl #[(0, .int .i64 _)] rfl (build1Z _ _) ?_)
                | (refine wpList_append_ints rfl (.tmp 50) (.tmp 51) rfl w3.heap.size _ [y] rfl hown (some ⟨b2, o2, none⟩) (m + 1) d (x :: l) rfl hll hrdW' (by simp; omega) hsx fun v' w' ho' hg' hb' => ?_; obtain ⟨A', c', hv', hca, hcb, hrd'⟩ := ho'.slice; subst hv')
                | fail)
              go_roundw
              case rel =>
                refine ⟨i, y, _, x :: l, A', m + 1, c', by have := HJM.out; omega, rfl, rfl, rfl, hll, hLX.grown hg' hsx (fun j e => (hown.at_ j e).1), ?_, hrd'⟩
                have hff := HFF.out
                subst hff
                exact routeFrom_cons hkl HRF.out HS.out
              case measure => simp [intOf]
            · have e1 : (e != 0) = true := by simpa using he
              go_wp2_with fail
              have hR : routeFrom a fs = ([], e) := by
                have hff := HFF.out
                subst hff
                exact routeFrom_bad hkl HRF.out HS.out he
              rw [hR] at HΦ
              exact HΦ.out _ _ ⟨⟨_, rfl, none, 0, rfl, RdV.nil _ _⟩, hLa.step hLW'⟩
end Go.Proofs.YtloiaaolnfimgaaGreat
