/- What is left behind the joined texts. -/
import Derived.Test.YtloiaaolnfimgaaGreatRv5
import Derived.WalkKit
import Derived.WalkSpells
import Derived.Deep.MidRow
import Derived.Deep.WholeRow
import Derived.Deep.Draws
import Derived.Maps.AppendAt
import Derived.Lib.Hide
import Derived.OwnWalk
import Derived.Laws.IdiomStrings
import Derived.Lib.SlBytesConst
import Derived.Orders
import Derived.Shelf.Abstract
import Derived.OrdersIn
import Derived.RangeFuncCalls
import Derived.RangeFuncNested
import Derived.RangeFuncBound
import Derived.RangeFuncLeaves
import Derived.Shelf.RegionOpen
import Derived.OwnWalkIn
import Derived.TacticsInMore
import Derived.LoopNIn
import Derived.LoopIn
import Derived.WalkMore
import Derived.Test.YtloiaaolnfimgaaGreatRows
import Derived.ProofKit
import Derived.OpenShut
import Derived.Deep.Slices
import Derived.Deep.Matrix
import Derived.WalkLawsBesides
import Derived.BigRegion
import Derived.BigQuiet
import Derived.Lib.AppendZeros
import Derived.Laws.BitsAllLaws
import Derived.IntWalk
import Derived.Laws.CopyOwn
import Derived.Outline
import Derived.Deep.RegionWith
import Derived.Deep.RegionHeld3
import Derived.Laws.EntriesVeiled
import Derived.Deep.DeepCutAuto
import Derived.StillTailTactics
import Derived.Deep.QuietTactic
import Derived.Stop.BytesEq
import Derived.ShutString
import Derived.ChangeOld
import Derived.Lib.ConvBytes
import Derived.Recover
import Derived.Defers
import Derived.Deep.Cut
import Derived.Maps.OwnOps
import Derived.Lib.QuoteBits
import Derived.Lib.AppendStr
import Derived.Deep.Grids
import Derived.Lib.LaidTab
import Derived.ScopeJumps
import Derived.Deep.SlicePairs
import Derived.Lib.SmallJoins
import Derived.Test.YtloiaaolnfimgaaGreatShelf
import Derived.Stop.Joined
import Derived.Laws.StructEq
import Derived.ChangeKeysEq
import Derived.Lib.BufferWrite
set_option linter.unusedVariables false
set_option linter.unusedSimpArgs false
namespace Go.Proofs.YtloiaaolnfimgaaGreat
open Go.RowKit

section
variable {w w' : World} {g : Nat} {t : TypeId} {cs : Array Value}
end

section
variable {w w' : World} {A : Option Addr} {l : List UInt8}
end

section
variable {w w' : World} {A : Option Addr} {ls : List (List UInt8)}
end

section
variable {P : Program} {ops : Array Oper} {rest : List Oper} {o : Oper} {a : Act} {w : World} {Q : Exit → Act → World → Prop}
end

end Go.Proofs.YtloiaaolnfimgaaGreat
namespace Go.Proofs.YtloiaaolnfimgaaGreat
open Go.RowKit

section
variable {U : TypeId} {w w' : World} {base : Nat} {v : Value} {l : List UInt8}
end

section
variable {P : Program}
end
end Go.Proofs.YtloiaaolnfimgaaGreat
namespace Go.Proofs.YtloiaaolnfimgaaGreat
open Go.RowKit
section
variable {w W W' : World}
end
end Go.Proofs.YtloiaaolnfimgaaGreat
namespace Go.Proofs.YtloiaaolnfimgaaGreat
open Go.RowKit

section
variable {P : Program} {ops : Array Oper} {Q : Exit → Act → World → Prop}
section
variable {o : Oper} {a : Act} {W : World} {R : Value → World → Prop}
end
end
end Go.Proofs.YtloiaaolnfimgaaGreat
namespace Go.Proofs.YtloiaaolnfimgaaGreat
open Go.RowKit
section
variable {P : Program} {Q : Exit → Act → World → Prop}
variable {o : Oper} {a : Act} {W : World} {R : Value → World → Prop}
end
end Go.Proofs.YtloiaaolnfimgaaGreat
namespace Go.Proofs.YtloiaaolnfimgaaGreat
open Go.RowKit
section
variable {P : Program} {Q : Exit → Act → World → Prop}
variable {o : Oper} {a : Act} {W : World} {R : Value → World → Prop}
end
section
variable {P : Program} {Q : Exit → Act → World → Prop}
end
end Go.Proofs.YtloiaaolnfimgaaGreat
namespace Go.Proofs.YtloiaaolnfimgaaGreat
open Go.RowKit
section
variable {P : Program} {Q : Exit → Act → World → Prop}
end
end Go.Proofs.YtloiaaolnfimgaaGreat
namespace Go.Proofs.YtloiaaolnfimgaaGreat
open Go.RowKit

section
variable {F : Fence} {n : Nat} {P : Program}
end
end Go.Proofs.YtloiaaolnfimgaaGreat
namespace Go.Proofs.YtloiaaolnfimgaaGreat
open Go.ChangeShapes Go.WideShapes Go.ChangeAt Go.RowKit
theorem addr_none {w : World} {x : Addr} {v : Value} (h : w.cell? x = some v) : x = ⟨x.block, x.off, none⟩ := by
  rcases x with ⟨b, o, s⟩
  rcases s with _ | s
  · rfl
  · exfalso
    unfold World.cell? at h
    simp only [Option.isSome_some, if_true] at h
    split at h <;> cases h
end Go.Proofs.YtloiaaolnfimgaaGreat
namespace Go.Proofs.YtloiaaolnfimgaaGreat
open Go.RowKit
end Go.Proofs.YtloiaaolnfimgaaGreat
namespace Go.Proofs.YtloiaaolnfimgaaGreat
open Go.RowKit
end Go.Proofs.YtloiaaolnfimgaaGreat
namespace Go.Proofs.YtloiaaolnfimgaaGreat
open Go.RowKit
section
variable {P : Program} {Q : Exit → Act → World → Prop} {o : Oper} {a : Act} {W : World} {R : Value → World → Prop}
end
end Go.Proofs.YtloiaaolnfimgaaGreat
namespace Go.Proofs.YtloiaaolnfimgaaGreat
open Go.RowKit Go.Builtin
end Go.Proofs.YtloiaaolnfimgaaGreat
namespace Go.Proofs.YtloiaaolnfimgaaGreat.Crc

end Go.Proofs.YtloiaaolnfimgaaGreat.Crc
namespace Go.Proofs.YtloiaaolnfimgaaGreat
open Go.RowKit
end Go.Proofs.YtloiaaolnfimgaaGreat
namespace Go.Proofs.YtloiaaolnfimgaaGreat
open Go.RowKit
end Go.Proofs.YtloiaaolnfimgaaGreat
namespace Go.Proofs.YtloiaaolnfimgaaGreat
open Go.RowKit
end Go.Proofs.YtloiaaolnfimgaaGreat
namespace Go.Proofs.YtloiaaolnfimgaaGreat
open Go.RowKit
end Go.Proofs.YtloiaaolnfimgaaGreat
namespace Go.Proofs.YtloiaaolnfimgaaGreat
open Go.RowKit
end Go.Proofs.YtloiaaolnfimgaaGreat
namespace Go.Proofs.YtloiaaolnfimgaaGreat
open Go.RowKit
end Go.Proofs.YtloiaaolnfimgaaGreat
namespace Go.Proofs.YtloiaaolnfimgaaGreat
open Go.RowKit
end Go.Proofs.YtloiaaolnfimgaaGreat
namespace Go.Proofs.YtloiaaolnfimgaaGreat
open Go.RowKit
end Go.Proofs.YtloiaaolnfimgaaGreat
namespace Go.Proofs.YtloiaaolnfimgaaGreat
open Go.RowKit
end Go.Proofs.YtloiaaolnfimgaaGreat
namespace Go.Proofs.YtloiaaolnfimgaaGreat
open Go.RowKit
end Go.Proofs.YtloiaaolnfimgaaGreat
namespace Go.Proofs.YtloiaaolnfimgaaGreat
open Go.RowKit
end Go.Proofs.YtloiaaolnfimgaaGreat
namespace Go.Proofs.YtloiaaolnfimgaaGreat
open Go.RowKit
end Go.Proofs.YtloiaaolnfimgaaGreat
namespace Go.Proofs.YtloiaaolnfimgaaGreat
open Go.RowKit
end Go.Proofs.YtloiaaolnfimgaaGreat
namespace Go.Proofs.YtloiaaolnfimgaaGreat
open Go.RowKit
end Go.Proofs.YtloiaaolnfimgaaGreat
namespace Go.Proofs.YtloiaaolnfimgaaGreat.Wr
open Go.RowKit
end Go.Proofs.YtloiaaolnfimgaaGreat.Wr
namespace Go.Proofs.YtloiaaolnfimgaaGreat
open Go.RowKit
end Go.Proofs.YtloiaaolnfimgaaGreat
namespace Go.Proofs.YtloiaaolnfimgaaGreat
open Go.RowKit Go.Maps
end Go.Proofs.YtloiaaolnfimgaaGreat
namespace Go.Proofs.YtloiaaolnfimgaaGreat
open Go.RowKit
end Go.Proofs.YtloiaaolnfimgaaGreat
namespace Go.Proofs.YtloiaaolnfimgaaGreat
open Go.RowKit
section
variable {P : Program} {Q : Exit → Act → World → Prop}
end
end Go.Proofs.YtloiaaolnfimgaaGreat
namespace Go.Proofs.YtloiaaolnfimgaaGreat
open Go.RowKit
section
variable {P : Program} {Q : Exit → Act → World → Prop}
end
end Go.Proofs.YtloiaaolnfimgaaGreat
namespace Go.Proofs.YtloiaaolnfimgaaGreat
open Go.RowKit
end Go.Proofs.YtloiaaolnfimgaaGreat
namespace Go.Proofs.YtloiaaolnfimgaaGreat
open Go.RowKit
end Go.Proofs.YtloiaaolnfimgaaGreat
namespace Go.Proofs.YtloiaaolnfimgaaGreat
open Go.RowKit
end Go.Proofs.YtloiaaolnfimgaaGreat
namespace Go.Proofs.YtloiaaolnfimgaaGreat
open Go.RowKit
end Go.Proofs.YtloiaaolnfimgaaGreat
namespace Go.Proofs.YtloiaaolnfimgaaGreat
open Go.RowKit
section
variable {P : Program} {Q : Exit → Act → World → Prop}
end
end Go.Proofs.YtloiaaolnfimgaaGreat
namespace Go.Proofs.YtloiaaolnfimgaaGreat
open Go.RowKit
section
variable {P : Program} {Q : Exit → Act → World → Prop}
end
end Go.Proofs.YtloiaaolnfimgaaGreat
namespace Go.Proofs.YtloiaaolnfimgaaGreat
open Go.RowKit
theorem wr_step {w w1 : World} {g : Nat} {v v' : Value} {l' : List UInt8} (hrow : Row w g 169 #[v, .bool true]) (hne : v.ownBlock ≠ some g) (hown : Own 5 w1 0 v' l') (hg : Grew w w1 v v') :
    IsWr (w1.setCell ⟨g, 0, none⟩ v') g v'.ownBlock l' ∧ Wrote w (w1.setCell ⟨g, 0, none⟩ v') g v.ownBlock v'.ownBlock := by
  have hlt := hrow.lt
  have hne' : v'.ownBlock ≠ some g := fun e => by
    rcases hg.2 g e with h | h
    · exact hne h
    · omega
  have hrow1 := hrow.grown hg.1 (fun e => hne e.symm)
  refine ⟨⟨v', hrow1.set 0 v', hown.keep fun b hb e => heap_setCell_other w1 ⟨g, 0, none⟩ b v' (fun e2 => hne' (by rw [e]; exact congrArg some e2)), rfl, hne'⟩, ?_, hg.2⟩
  exact ((Same.of_grown hg.1).mono fun j hj => ⟨hj.1, hj.2.2⟩).trans ((Same.set w1 ⟨g, 0, none⟩ v').mono fun j hj => hj.2.1)
theorem wnew_any (w : World) : Calls Tryz.prog 54 #[] w fun e w' => e = .returned (.pointer (some ⟨w.heap.size, 0, none⟩)) ∧ IsWr w' w.heap.size none [] ∧ Later w w' ∧ w.heap.size < w'.heap.size := by
  go_enter Tryz.func54, Tryz.ntmps54
  go_wp2
  go_ret
  exact ⟨rfl, ⟨_, Row.new w 169 _, Own.nil _ _ _, rfl, by simp⟩, (Later.refl w).alloc _, by simp⟩
theorem wnone_yes (g : Nat) (v : Value) (made : Bool) (w : World) (hr : Row w g 169 #[v, .bool made]) : Calls Tryz.prog 103 #[.pointer (some ⟨g, 0, none⟩)] w fun e w' => w' = w ∧ e = .returned (.bool (!made)) := by
  have hc : w.cell? ⟨g, 1, none⟩ = some (.bool made) := (hr.cell 1).trans rfl
  have hd : decide (made = false) = !made := by cases made <;> rfl
  go_enter Tryz.func103, Tryz.ntmps103
  go_wp2
  go_ret
  exact ⟨rfl, rfl⟩
def Wr.wrong (n : Int) : Bool := decide (n < 0) || decide (4611686018427387904 < n)
theorem wrongFn_any (n : Int) (w : World) : Calls Tryz.prog 105 #[.int .i64 n] w fun e w' => w' = w ∧ e = .returned (.bool (Wr.wrong n)) := by
  unfold Wr.wrong
  by_cases h : n < 0
  · have hd : decide (n < 0) = true := decide_eq_true h
    rw [hd]
    go_enter Tryz.func105, Tryz.ntmps105
    go_wp2
    go_ret
    exact ⟨rfl, rfl⟩
  · have hd : decide (n < 0) = false := decide_eq_false h
    rw [hd, Bool.false_or]
    obtain ⟨b, hb⟩ : ∃ b, decide (4611686018427387904 < n) = b := ⟨_, rfl⟩
    rw [hb]
    go_enter Tryz.func105, Tryz.ntmps105
    go_wp2
    go_ret
    exact ⟨rfl, rfl⟩
theorem indexFn_any (A : Option Addr) (n c : Nat) (l : List Int) (w : World) (hn : l.length = n) (hm : n ≤ 1000000000) (hr : RdV w A (l.map numV)) :
    Calls Tryz.prog 137 #[.slice A n c, .func (.func 105) #[] #[]] w fun e w' => w' = w ∧ ∃ k : Int, e = .returned (.int .i64 k) ∧ decide (0 ≤ k) = l.any Wr.wrong := by
  have HN := Lib.hid hn
  clear hn
  go_enter Tryz.func137, Tryz.ntmps137
  go_wp2_with fail
  go_loopw [8] (fun t wr => wr = w ∧ ∃ i : Nat, i ≤ n ∧ t = .int .i64 (i : Int) ∧ (l.take i).any Wr.wrong = false) (fun t _ => n - (intOf t).toNat)
  case atStart => exact ⟨rfl, 0, by omega, rfl, rfl⟩
  case round =>
    obtain ⟨rfl, i, hi, rfl, hany⟩ := hrel
    by_cases hlt : i < n
    · have hd : decide ((i : Int) < (n : Int)) = true := decide_eq_true (by omega)
      have hd' : decide (i < n) = true := decide_eq_true hlt
      have hil : i < l.length := by rw [HN.out]; exact hlt
      obtain ⟨b, o, rfl, hc⟩ := hr.at_ (k := i) (by simpa using hil)
      rw [List.getElem_map] at hc
      have hnx : l.take (i + 1) = l.take i ++ [l[i]] := List.take_succ_eq_append_getElem hil
      have hsp : l = l.take i ++ (l[i] :: l.drop (i + 1)) := by simp
      generalize hx : l[i] = x at *
      have HNX := Lib.hid hnx
      have HSP := Lib.hid hsp
      clear hnx hsp hr
      by_cases hw : Wr.wrong x = true
      · go_wp2_with (first
          | (go_at_call 105; refine (wrongFn_any x _).mono ?_; rintro e w2 ⟨rfl, rfl⟩; rw [hw])
          | fail)
        go_ret
        refine ⟨rfl, _, rfl, ?_⟩
        rw [HSP.out]
        simp [hw]
      · have hw' : Wr.wrong x = false := by simpa using hw
        go_wp2_with (first
          | (go_at_call 105; refine (wrongFn_any x _).mono ?_; rintro e w2 ⟨rfl, rfl⟩; rw [hw'])
          | fail)
        go_roundw
        case rel => exact ⟨trivial, i + 1, by omega, by go_num, by rw [HNX.out, List.any_append, hany]; simp [hw']⟩
        case measure => simp [intOf]; omega
    · obtain rfl : i = n := by omega
      have hd : decide ((i : Int) < (i : Int)) = false := decide_eq_false (by omega)
      rw [List.take_of_length_le (by rw [HN.out]; exact Nat.le_refl _)] at hany
      go_wp2_with fail
      go_ret
      exact ⟨rfl, _, rfl, by rw [hany]; rfl⟩
theorem containsFn_any (A : Option Addr) (n c : Nat) (l : List Int) (w : World) (hn : l.length = n) (hm : n ≤ 1000000000) (hr : RdV w A (l.map numV)) :
    Calls Tryz.prog 104 #[.slice A n c, .func (.func 105) #[] #[]] w fun e w' => w' = w ∧ e = .returned (.bool (l.any Wr.wrong)) := by
  have hi := indexFn_any A n c l w hn hm hr
  go_enter Tryz.func104, Tryz.ntmps104
  go_wp2_with (first
    | (go_at_call 137; refine hi.mono ?_; clear hi; rintro e w2 ⟨rfl, k, rfl, hk⟩)
    | fail)
  go_ret
  exact ⟨rfl, by rw [← hk]; rfl⟩
theorem Wr.nums_len (l : List Int) : (Wr.nums l).length ≤ 9 * l.length := by
  induction l with
  | nil => simp [Wr.nums]
  | cons x l ih =>
    have := Wr.nb_le x
    unfold Wr.nums at *
    rw [List.flatMap_cons, List.length_append, List.length_cons]
    omega
theorem Wr.wrong_lt {x : Int} (h : Wr.wrong x = false) : x < 9223372036854775808 := by
  unfold Wr.wrong at h
  simp at h
  omega
set_option maxRecDepth 100000 in
set_option maxHeartbeats 1000000 in
theorem wNumber_any (g : Nat) (r : Option Nat) (l0 : List UInt8) (A : Option Addr) (n c : Nat) (l : List Int) (w : World) (hn : l.length = n) (hm : n ≤ 1000000) (hl0 : l0.length ≤ 100000000) (hr : RdV w A (l.map numV)) (hA : ∀ b o, A = some ⟨b, o, none⟩ → l ≠ [] → b ≠ g ∧ some b ≠ r) (hw : IsWr w g r l0) :
    Calls Tryz.prog 56 #[.pointer (some ⟨g, 0, none⟩), .slice A n c] w fun e w' => (l.any Wr.wrong = true ∧ w' = w ∧ e = .returned (.int .i64 2)) ∨ (l.any Wr.wrong = false ∧ e = .returned (.int .i64 0) ∧ ∃ r', IsWr w' g r' (l0 ++ Wr.nums l) ∧ Wrote w w' g r r') := by
  have hct := containsFn_any A n c l w hn (by omega) hr
  obtain ⟨v, hrow, hown, hv, hrg⟩ := hw
  have HN := Lib.hid hn
  clear hn
  have hno := wnone_yes g v true w hrow
  cases hany : l.any Wr.wrong with
  | true =>
    rw [hany] at hct
    go_enter Tryz.func56, Tryz.ntmps56
    go_wp2_with (first
      | (go_at_call 103; refine hno.mono ?_; clear hno; rintro e w2 ⟨rfl, rfl⟩)
      | (go_at_call 104; refine hct.mono ?_; clear hct; rintro e w2 ⟨rfl, rfl⟩)
      | fail)
    go_ret
    exact .inl ⟨trivial, rfl, rfl⟩
  | false =>
    rw [hany] at hct
    have HANY := Lib.hid hany
    clear hany
    have hw : IsWr w g r l0 := ⟨v, hrow, hown, hv, hrg⟩
    clear hrow hown hv
    go_enter Tryz.func56, Tryz.ntmps56
    go_wp2_with (first
      | (go_at_call 103; refine hno.mono ?_; clear hno; rintro e w2 ⟨rfl, rfl⟩)
      | (go_at_call 104; refine hct.mono ?_; clear hct; rintro e w2 ⟨rfl, rfl⟩)
      | fail)
    have hgl := hw.lt.1
    go_loopw [15] (fun t wr => ∃ i : Nat, i ≤ n ∧ t = .int .i64 (i : Int) ∧ ∃ r1, IsWr wr g r1 (l0 ++ Wr.nums (l.take i)) ∧ Wrote w2 wr g r r1) (fun t _ => n - (intOf t).toNat)
    case atStart => exact ⟨0, by omega, rfl, r, by simpa [Wr.nums] using hw, Wrote.refl _ _ _⟩
    case round =>
      obtain ⟨i, hi, rfl, r1, ⟨v1, hrow1, hown1, hv1, hne1⟩, hwr⟩ := hrel
      by_cases hlt : i < n
      · have hd : decide ((i : Int) < (n : Int)) = true := decide_eq_true (by omega)
        have hd' : decide (i < n) = true := decide_eq_true hlt
        have hil : i < l.length := by rw [HN.out]; exact hlt
        have hr1 : RdV wr A (l.map numV) := hr.same hwr.1 (fun b o e hne hb => ⟨hb, hA b o e (by intro h; subst h; exact hne rfl)⟩)
        obtain ⟨b, o, rfl, hc⟩ := hr1.at_ (k := i) (by simpa using hil)
        rw [List.getElem_map] at hc
        have hnx : Wr.nums (l.take (i + 1)) = Wr.nums (l.take i) ++ Wr.nb l[i] := by rw [List.take_succ_eq_append_getElem hil, Wr.nums, List.flatMap_append, List.flatMap_cons, List.flatMap_nil, List.append_nil]; rfl
        have hxw : Wr.wrong l[i] = false := by
          have := HANY.out
          rw [List.any_eq_false] at this
          simpa using this _ (List.getElem_mem hil)
        have hlen := Wr.nums_len (l.take i)
        rw [List.length_take] at hlen
        have hc1 : wr.cell? ⟨g, 0, none⟩ = some v1 := (hrow1.cell 0).trans rfl
        generalize l[i] = x at *
        have HNX := Lib.hid hnx
        clear hnx hr1
        have hnum := wnumber_any v1 (l0 ++ Wr.nums (l.take i)) x 0 wr (Wr.wrong_lt hxw) (by rw [List.length_append]; omega) (Nat.zero_le _) hown1
        go_wp2_with (first
          | (go_at_call 106; refine hnum.mono ?_; clear hnum; rintro e w3 ⟨v3, rfl, hown3, hgr3⟩; obtain ⟨A3, n3, c3, rfl⟩ := hown3.shape; have hrow3 := hrow1.grown hgr3.1 (fun e => hne1 (hv1 ▸ e.symm)); have hc3 : w3.cell? ⟨g, 0, none⟩ = some v1 := (hrow3.cell 0).trans rfl; have hf3 : w3.frozen? ⟨g, 0, none⟩ = false := hrow3.frozen 0; have HO := Lib.hid hown3; clear hown3 hrow3)
          | fail)
        obtain ⟨hws, hwr2⟩ := wr_step hrow1 (hv1.symm ▸ hne1) HO.out hgr3
        rw [List.append_assoc, ← HNX.out] at hws
        go_roundw
        case rel => exact ⟨i + 1, by omega, by go_num, _, hws, hwr.trans (hv1 ▸ hwr2)⟩
        case measure => simp [intOf]; omega
      · obtain rfl : i = n := by omega
        have hd : decide ((i : Int) < (i : Int)) = false := decide_eq_false (by omega)
        have hd' : decide (i < i) = false := decide_eq_false (by omega)
        rw [List.take_of_length_le (by rw [HN.out]; exact Nat.le_refl _)] at hown1
        go_wp2_with fail
        go_ret
        exact .inr ⟨trivial, rfl, r1, ⟨v1, hrow1, hown1, hv1, hne1⟩, hwr⟩
end Go.Proofs.YtloiaaolnfimgaaGreat
namespace Go.Proofs.YtloiaaolnfimgaaGreat
open Go.RowKit
section
variable {P : Program}
theorem strCells_list (s : List UInt8) : Lib.strCells ⟨s.toArray⟩ = s.map byteV := by simp [Lib.strCells]
theorem run_append_str_at (w : World) (base : Nat) (t u ty U : TypeId) (ht : P.underlying t = some (.slice U)) (hu : P.underlying u = some .string) (hi : ByteInfo P U) (v : Value) (l : List UInt8) (hown : Own U w base v l) (s : List UInt8) (hlen : l.length + s.length ≤ 140737488355328) (hbase : base ≤ w.heap.size) :
    ∃ v' w', (Builtin.append_ #[t, u] ty #[v, .string ⟨s.toArray⟩]).run P w = .ok v' w' ∧ Own U w' base v' (l ++ s) ∧ w.grownBy w' v.ownBlock ∧ (v'.ownBlock = v.ownBlock ∨ v'.ownBlock = some w.heap.size) := by
  obtain ⟨i, hi0, hz, hs, hb⟩ := info_parts hi
  have hsz : (⟨s.toArray⟩ : ByteArray).size = s.length := by simp [ByteArray.size]
  obtain ⟨v', w', hr, h2, h3, h4⟩ := Lib.run_append_own_string (P := P) w base t u ty U i ht hu hi0 hz hs hb v l.length (l.map byteV) hown ⟨s.toArray⟩ (by rw [hsz]; unfold maxLen; omega) (by rw [hsz]; exact hlen) hbase
  rw [hsz, strCells_list, ← List.map_append] at h2
  refine ⟨v', w', hr, by unfold Own; rw [List.length_append]; exact h2, h3, ?_⟩
  rcases hown.2 with ⟨rfl, hl⟩ | ⟨g, cap, cur, rfl, hbg, hg, hnc, hcm, hcs, htake⟩
  · by_cases h0 : s.length = 0
    · rw [h4.2 ⟨rfl, by rw [hsz]; exact h0⟩]
      exact .inl rfl
    · have hn := run_append_nil_string (P := P) w t u ty U i (.int .u8 0) ht hu hi0 hz ⟨s.toArray⟩ (by rw [hsz]; omega) (by rw [hsz]; omega) (by rw [hsz, hb]; omega)
      have e0 := hr.symm.trans hn
      injection e0 with e _
      rw [e]
      exact .inr rfl
  · by_cases hroom : l.length + s.length ≤ cap
    · have hcs' : cur.size = cap := by simpa using hcs
      have hn := Lib.run_append_room_string (P := P) w t u ty U i ht hu hi0 hs g l.length cap cur hg ⟨s.toArray⟩ (by rw [hsz]; exact hroom) (by rw [hsz]; omega)
      have e0 := hr.symm.trans hn
      injection e0 with e _
      rw [e]
      exact .inl rfl
    · have hn := Lib.run_append_grow_string (P := P) w t u ty U i (.int .u8 0) ht hu hi0 hz ⟨g, 0, none⟩ l.length cap (l.map byteV) (by rw [hs]; simp) (World.ownsRow.cells hown (g := g) rfl) ⟨s.toArray⟩ (by rw [hsz]; omega) (by rw [hsz]; omega) (by rw [hsz, hb]; exact growslice_fits (by omega) (by omega))
      have e0 := hr.symm.trans hn
      injection e0 with e _
      rw [e]
      exact .inr rfl
theorem wpList_append_str {w : World} {ops : Array Oper} {rest : List Oper} {o : Oper} {a : Act} {Q : Exit → Act → World → Prop} (hgd : o.guard = none) (sl x : Operand) (t u : TypeId)
    (ho : o.op = .call { callee := .builtin .append, args := #[sl, x], argTypes := #[t, u] }) (base : Nat) (U : TypeId) (ht : P.underlying t = some (.slice U)) (hu : P.underlying u = some .string) (hi : ByteInfo P U)
    (v : Value) (l : List UInt8) (hs : a.eval sl = v) (hown : Own U w base v l) (s : List UInt8) (hx : a.eval x = .string ⟨s.toArray⟩) (hlen : l.length + s.length ≤ 140737488355328) (hbase : base ≤ w.heap.size)
    (h : ∀ v' w', Own U w' base v' (l ++ s) → w.grownBy w' v.ownBlock → (v'.ownBlock = v.ownBlock ∨ v'.ownBlock = some w.heap.size) → wpList P ops Q rest (a.put o.dst v') w') : wpList P ops Q (o :: rest) a w :=
  wpList_plain hgd fun _ hK => by
    obtain ⟨v', w', hr', h2, h3, h4⟩ := run_append_str_at (P := P) w base t u o.type U ht hu hi v l hown s hlen hbase
    unfold Oper.wp execOp
    simp only [ho, resolve, invoke, builtin, Sem.run_bind, Sem.run_pure, Result.andThen_ok, List.map_toArray, List.map_cons, List.map_nil, hs, hx, hr']
    exact hK _ _ (h v' w' h2 h3 h4)
end
theorem Grew.of_at {w w' : World} {v v' : Value} (hg : w.grownBy w' v.ownBlock) (hat : v'.ownBlock = v.ownBlock ∨ v'.ownBlock = some w.heap.size) : Grew w w' v v' := ⟨hg, fun k hk => by
  rcases hat with e | e
  · exact .inl (e ▸ hk)
  · rw [e] at hk
    exact .inr (Nat.le_of_eq (Option.some.inj hk))⟩
theorem wall_any (g : Nat) (r : Option Nat) (l : List UInt8) (w : World) (hm : l.length ≤ 140737488355328) (hw : IsWr w g r l) :
    Calls Tryz.prog 58 #[.pointer (some ⟨g, 0, none⟩)] w fun e w' => ∃ v, e = .returned v ∧ Own 5 w' w.heap.size v l ∧ Later w w' := by
  obtain ⟨v, hrow, hown, hv, hrg⟩ := hw
  obtain ⟨A, c, rfl, _, _, hrd⟩ := hown.slice
  have hno := wnone_yes g _ true w hrow
  have hcl := clone_any A l.length c l w rfl hm hrd
  have hc1 : w.cell? ⟨g, 0, none⟩ = some (.slice A l.length c) := (hrow.cell 0).trans rfl
  go_enter Tryz.func58, Tryz.ntmps58
  go_wp2_with (first
    | (go_at_call 103; refine hno.mono ?_; clear hno; rintro e w2 ⟨rfl, rfl⟩)
    | (go_at_call 78; refine hcl.mono ?_; clear hcl; rintro e w3 ⟨v3, rfl, hown3, hL3⟩)
    | fail)
  go_ret
  exact ⟨_, rfl, hown3, hL3⟩
set_option maxRecDepth 100000 in
set_option maxHeartbeats 1000000 in
theorem wText_any (g : Nat) (r : Option Nat) (l0 s : List UInt8) (w : World) (hm : s.length < 9223372036854775808) (hl0 : l0.length ≤ 100000000) (hw : IsWr w g r l0) :
    Calls Tryz.prog 72 #[.pointer (some ⟨g, 0, none⟩), .string ⟨s.toArray⟩] w fun e w' => (1048576 < s.length ∧ w' = w ∧ e = .returned (.int .i64 3)) ∨ (s.length ≤ 1048576 ∧ e = .returned (.int .i64 0) ∧ ∃ r', IsWr w' g r' (l0 ++ (Wr.bytes s.length ++ s)) ∧ Wrote w w' g r r') := by
  obtain ⟨v, hrow, hown, hv, hrg⟩ := hw
  have hno := wnone_yes g v true w hrow
  have hsz : (⟨s.toArray⟩ : ByteArray).size = s.length := by simp [ByteArray.size]
  by_cases hbig : 1048576 < s.length
  · have hd : decide ((1048576 : Int) < (s.length : Int)) = true := decide_eq_true (by omega)
    have hd' : decide (1048576 < s.length) = true := decide_eq_true (by omega)
    go_enter Tryz.func72, Tryz.ntmps72
    go_wp2_with (first
      | (go_at_call 103; refine hno.mono ?_; clear hno; rintro e w2 ⟨rfl, rfl⟩)
      | fail)
    go_ret
    exact .inl ⟨hbig, rfl, rfl⟩
  · have hd : decide ((1048576 : Int) < (s.length : Int)) = false := decide_eq_false (by omega)
    have hd' : decide (1048576 < s.length) = false := decide_eq_false (by omega)
    have hnum := wnumber_any v l0 (s.length : Int) 0 w (by omega) (by omega) (Nat.zero_le _) hown
    rw [Wr.nb_nat] at hnum
    have hbl := Wr.bytes_le s.length
    have hc1 : w.cell? ⟨g, 0, none⟩ = some v := (hrow.cell 0).trans rfl
    generalize hlen : s.length = n at *
    go_enter Tryz.func72, Tryz.ntmps72
    go_wp2_with (first
      | (go_at_call 103; refine hno.mono ?_; clear hno; rintro e w2 ⟨rfl, rfl⟩)
      | (go_at_call 106; refine hnum.mono ?_; clear hnum; rintro e w3 ⟨v3, rfl, hown3, hgr3⟩)
      | (at_builtin; refine wpList_append_str rfl (.tmp 19) (.tmp 20) 60 9 rfl 0 5 Tryz.underlying60 Tryz.underlying9 byteInfo v3 (l0 ++ Wr.bytes n) rfl hown3 s rfl (by rw [List.length_append]; omega) (Nat.zero_le _) ?_; intro v4 w4 hown4 hg4 hat4; have hgr4 := hgr3.trans (Grew.of_at hg4 hat4); obtain ⟨A4, n4, c4, rfl⟩ := hown4.shape; have hrow4 := hrow.grown hgr4.1 (fun e => hrg (hv ▸ e.symm)); have hc4 : w4.cell? ⟨g, 0, none⟩ = some v := (hrow4.cell 0).trans rfl; have hf4 : w4.frozen? ⟨g, 0, none⟩ = false := hrow4.frozen 0; have HO := Lib.hid hown4; have HG := Lib.hid hgr4; clear hown4 hrow4 hgr4 hg4 hat4)
      | fail)
    go_ret
    obtain ⟨hws, hwr⟩ := wr_step hrow (hv.symm ▸ hrg) HO.out HG.out
    rw [List.append_assoc] at hws
    exact .inr ⟨by omega, rfl, _, hws, hv ▸ hwr⟩
end Go.Proofs.YtloiaaolnfimgaaGreat
namespace Go.Proofs.YtloiaaolnfimgaaGreat
open Go.RowKit
theorem loadHr {w : World} {b o : Nat} {h : List UInt8} (hl : h.length = 32) (hr : w.rangeAt b o (hC h).toList) : (Instr.loadAt 25 (.pointer (some ⟨b, o, none⟩))).run Tryz.prog w = .ok (.agg (hC h)) w := by
  have := run_loadAt_mid (P := Tryz.prog) w b o 25 (hC h).toList _ hr Tryz.underlying25 rfl (by rw [Array.length_toList, hC_size h (by omega)]; exact infoH)
  rwa [Array.toArray_toList] at this
theorem Grew.later0 {w w1 w2 : World} {v v' : Value} (k : Later w w1) (h : Grew w1 w2 v v') : Grew w w2 v v' := ⟨⟨h.1.os.trans k.os, h.1.tape.trans k.tape, h.1.output.trans k.output, Nat.le_trans k.size h.1.size, fun i hi hn => (h.1.block i (Nat.lt_of_lt_of_le hi k.size) hn).trans (k.block i hi)⟩, fun i e => (h.2 i e).imp id (fun h => Nat.le_trans k.size h)⟩
theorem Wrote.later0 {w w1 w2 : World} {g : Nat} {r r' : Option Nat} (k : Later w w1) (h : Wrote w1 w2 g r r') : Wrote w w2 g r r' := ⟨((Same.of_below k).mono fun j hj => hj.1).trans (h.1.mono fun j hj => ⟨Nat.lt_of_lt_of_le hj.1 k.size, hj.2⟩), fun i e => (h.2 i e).imp id (fun h => Nat.le_trans k.size h)⟩
theorem flat_len32 : ∀ (l : List (List UInt8)), (∀ h ∈ l, h.length = 32) → l.flatten.length ≤ 32 * l.length
  | [], _ => by simp
  | x :: l, h => by
    have h1 := flat_len32 l (fun y hy => h y (List.mem_cons_of_mem _ hy))
    have h2 := h x List.mem_cons_self
    rw [List.flatten_cons, List.length_append, List.length_cons]
    omega
theorem fieldWr0 {g : Nat} (W : World) : (Instr.fieldAt 169 (.pointer (some ⟨g, 0, none⟩)) 0).run Tryz.prog W = .ok (.pointer (some ⟨g, 0, none⟩)) W := by
  go_simp
set_option maxRecDepth 100000 in
set_option maxHeartbeats 1000000 in
theorem wHash_any (g : Nat) (r : Option Nat) (l0 : List UInt8) (A : Option Addr) (n c : Nat) (l : List (List UInt8)) (w : World) (hn : l.length = n) (hm : n ≤ 1000000) (hl32 : ∀ h ∈ l, h.length = 32) (hl0 : l0.length ≤ 100000000) (hr : RdH w A l) (hA : ∀ b o, A = some ⟨b, o, none⟩ → l ≠ [] → b ≠ g ∧ some b ≠ r) (hw : IsWr w g r l0) :
    Calls Tryz.prog 55 #[.pointer (some ⟨g, 0, none⟩), .slice A n c] w fun e w' => e = .returned (.int .i64 0) ∧ ∃ r', IsWr w' g r' (l0 ++ l.flatten) ∧ Wrote w w' g r r' := by
  have hw0 := hw
  obtain ⟨v, hrow, hown, hv, hrg⟩ := hw
  have HN := Lib.hid hn
  clear hn
  have hno := wnone_yes g v true w hrow
  clear hrow hown hv
  go_enter Tryz.func55, Tryz.ntmps55
  go_wp2_with (first
    | (go_at_call 103; refine hno.mono ?_; clear hno; rintro e w2 ⟨rfl, rfl⟩)
    | fail)
  have hgl := hw0.lt.1
  go_loopw [11] (fun t wr => ∃ i : Nat, i ≤ n ∧ t = .int .i64 (i : Int) ∧ ∃ r1, IsWr wr g r1 (l0 ++ (l.take i).flatten) ∧ Wrote w2 wr g r r1) (fun t _ => n - (intOf t).toNat)
  case atStart => exact ⟨0, by omega, rfl, r, by simpa using hw0, Wrote.refl _ _ _⟩
  case round =>
    obtain ⟨i, hi, rfl, r1, hwr1, hwr⟩ := hrel
    by_cases hlt : i < n
    · have hd : decide ((i : Int) < (n : Int)) = true := decide_eq_true (by omega)
      have hd' : decide (i < n) = true := decide_eq_true hlt
      have hil : i < l.length := by rw [HN.out]; exact hlt
      have hr1 : RdH wr A l := hr.same hwr.1 (fun b o e hne hb => ⟨hb, hA b o e (by intro h; subst h; exact hne rfl)⟩)
      obtain ⟨b, o, rfl, hcs⟩ := hr1 (by intro e; subst e; simp at hil)
      have hc := hcs i hil
      have hx32 := hl32 _ (List.getElem_mem hil)
      have hnx : (l.take (i + 1)).flatten = (l.take i).flatten ++ l[i] := by rw [List.take_succ_eq_append_getElem hil, List.flatten_append]; simp
      have hlen : (l.take i).flatten.length ≤ 32 * n := Nat.le_trans (flat_len32 _ (fun h hh => hl32 h (List.mem_of_mem_take hh))) (by rw [List.length_take]; omega)
      generalize l[i] = x at *
      have hld := loadHr hx32 hc
      obtain ⟨w3, hst, hrow3, hg3⟩ := storeH (a := []) (b := x) (by simp) (by omega) (Row.new wr 25 (hC []))
      have HNX := Lib.hid hnx
      have HX := Lib.hid hx32
      clear hnx hr1 hcs hc hx32
      go_upto_region 6 with (first
        | (refine wpList_load rfl 25 (.tmp 13) rfl (.pointer (some ⟨b, o + i * 32, none⟩)) rfl hld ?_)
        | (with_reducible refine wpList_alloc rfl 25 rfl (allocH _) ?_)
        | (refine wpList_store rfl 25 (.tmp 6) (.tmp 14) rfl (.pointer (some ⟨wr.heap.size, 0, none⟩)) (.agg (hC x)) rfl rfl hst ?_)
        | fail)
      simp only [Act.put, List.setIfInBounds_toArray, List.set_cons_succ, List.set_cons_zero]
      obtain ⟨v1, hrow1, hown1, hv1, hne1⟩ := hwr1
      obtain ⟨q, hq⟩ : ∃ q, q = wr.heap.size := ⟨_, rfl⟩
      rw [← hq] at hrow3 hg3 ⊢
      have hL3 : Later wr w3 := ((Later.refl wr).alloc (.cells (hC []) 25)).grown hg3 (by simp) (fun k e => by cases e; omega)
      obtain ⟨A1, n1, c1, rfl⟩ := hown1.shape
      have hrow13 := hrow1.later hL3
      have hown13 := hown1.later hL3
      refine (wpIn_wide (n := 0)).1 ?_
      refine wpIn_region_pivot wide_wide 6 [.pointer (some ⟨g, 0, none⟩), .pointer (some ⟨g, 0, none⟩), .pointer (some ⟨g, 0, none⟩), .pointer (some ⟨g, 0, none⟩), .slice A1 n1 c1, .slice (some ⟨q, 0, none⟩) 32 32, undef, .pointer (some ⟨g, 0, none⟩), .pointer (some ⟨g, 0, none⟩)] (fun W => Later w3 W) (fun y W => Own 5 W 0 y (l0 ++ (l.take i).flatten ++ x) ∧ Grew w3 W (.slice A1 n1 c1) y) (fun W W' h k => k.step h) (fun y W W' h k => ⟨k.1.later h, k.2.later h⟩) (Later.refl _) (by kernel_rfl) (by kernel_rfl) (by kernel_rfl) (by kernel_rfl) (by kernel_rfl) (by kernel_rfl) rfl (by kernel_rfl) (by kernel_rfl) ⟨?_, ?_, ?_, ?_, ?_, ?_, ?_, ?_, ?_, trivial⟩ ?_
      · exact fun ac W dd xx he => stepOk_want rfl (op_move rfl (he.keep (.tmp 0) (by kernel_rfl)))
      · exact fun ac W dd xx he => stepOk_want rfl (op_move rfl (he.keep (.tmp 0) (by kernel_rfl)))
      · exact fun ac W dd xx he => stepOk_want rfl (op_nil rfl (show ac.eval (.tmp 16) = .pointer (some ⟨g, 0, none⟩) from he.val 1 16 (by kernel_rfl) rfl rfl) rfl)
      · exact fun ac W dd xx he => stepOk_want rfl (op_fieldAddr rfl (show ac.eval (.tmp 17) = .pointer (some ⟨g, 0, none⟩) from he.val 2 17 (by kernel_rfl) rfl rfl) (fieldWr0 W) rfl)
      · exact fun ac W dd xx he => stepOk_want rfl (op_load rfl (show ac.eval (.tmp 18) = .pointer (some ⟨g, 0, none⟩) from he.val 3 18 (by kernel_rfl) rfl rfl) (loadSl ((he.both (C := fun W => Row W g 169 #[.slice A1 n1 c1, .bool true]) (fun W h => hrow13.later h) (fun y W h => hrow13.grown h.2.1 (fun e => hne1 (hv1 ▸ e.symm)))).cell 0 |>.trans rfl)) rfl)
      · exact fun ac W dd xx he => stepOk_want rfl (op_slice (W' := W) rfl (he.keep (.tmp 6) (by kernel_rfl)) (rfl : _ = none) (rfl : _ = none) rfl (sliceHash W) rfl)
      · intro ac W he hA; refine ⟨rfl, ?_⟩; have e19 := (show ac.eval (.tmp 19) = .slice A1 n1 c1 from he.val 4 19 (by kernel_rfl) rfl rfl); have e20 := (show ac.eval (.tmp 20) = .slice (some ⟨q, 0, none⟩) 32 32 from he.val 5 20 (by kernel_rfl) rfl rfl); exact op_append_bytes (.tmp 19) (.tmp 20) 60 rfl 0 5 Tryz.underlying60 byteInfo (.slice A1 n1 c1) _ e19 (hown13.later hA) (some ⟨q, 0, none⟩) 32 32 x e20 HX.out (rd_hash HX.out (hrow3.later hA)) (by rw [List.length_append]; omega) (Nat.zero_le _) (fun v' w' h1 h2 h3 => ⟨v', rfl, h1, Grew.later0 hA (Grew.of_at h2 h3)⟩)
      · exact fun ac W dd xx he => stepOk_want rfl (op_nil rfl (show ac.eval (.tmp 15) = .pointer (some ⟨g, 0, none⟩) from he.val 0 15 (by kernel_rfl) rfl rfl) rfl)
      · exact fun ac W dd xx he => stepOk_want rfl (op_fieldAddr rfl (show ac.eval (.tmp 22) = .pointer (some ⟨g, 0, none⟩) from he.val 7 22 (by kernel_rfl) rfl rfl) (fieldWr0 W) rfl)
      · intro xs W y hB hx hk hg
        have e8 := hg 8 23 (by decide) (by kernel_rfl)
        have e6 := hg 6 21 (by decide) (by kernel_rfl)
        rw [hx 8 (by decide)] at e8
        rw [hx 6 (by decide)] at e6
        obtain ⟨hownW, hgrW⟩ := hB
        obtain ⟨A4, n4, c4, rfl⟩ := hownW.shape
        have hrowW := hrow13.grown hgrW.1 (fun e => hne1 (hv1 ▸ e.symm))
        obtain ⟨hws, hwr2⟩ := wr_step hrow13 (hv1.symm ▸ hne1) hownW hgrW
        have hst4 : (Instr.storeAt 60 (.pointer (some ⟨g, 0, none⟩)) (.slice A4 n4 c4)).run Tryz.prog W = .ok () (W.setCell ⟨g, 0, none⟩ (.slice A4 n4 c4)) := by
          have h1 : W.cell? ⟨g, 0, none⟩ = some (.slice A1 n1 c1) := (hrowW.cell 0).trans rfl
          have h2 : W.frozen? ⟨g, 0, none⟩ = false := hrowW.frozen 0
          go_simp
        refine last_store rfl rfl e8 e6 hst4 ?_
        clear hx hk hg e8 e6
        simp only [initL, lastL, putL, Nat.reduceAdd, Act.put, List.setIfInBounds_toArray, List.set_cons_succ, List.set_cons_zero]
        go_wp2_with fail
        rw [List.append_assoc, ← HNX.out] at hws
        exact ⟨⟨i + 1, by omega, by go_num, _, hws, hwr.trans (Wrote.later0 hL3 (hv1 ▸ hwr2))⟩, by simp [intOf]; omega⟩
    · obtain rfl : i = n := by omega
      have hd : decide ((i : Int) < (i : Int)) = false := decide_eq_false (by omega)
      have hd' : decide (i < i) = false := decide_eq_false (by omega)
      rw [List.take_of_length_le (by rw [HN.out]; exact Nat.le_refl _)] at hwr1
      go_wp2_with fail
      go_ret
      exact ⟨rfl, r1, hwr1, hwr⟩
end Go.Proofs.YtloiaaolnfimgaaGreat
namespace Go.Proofs.YtloiaaolnfimgaaGreat
open Go.RowKit
end Go.Proofs.YtloiaaolnfimgaaGreat
namespace Go.Proofs.YtloiaaolnfimgaaGreat
open Go.RowKit
end Go.Proofs.YtloiaaolnfimgaaGreat
namespace Go.Proofs.YtloiaaolnfimgaaGreat
open Go.RowKit
section
variable {P : Program} {Q : Exit → Act → World → Prop} {o : Oper} {a : Act} {W : World} {R : Value → World → Prop}
end
end Go.Proofs.YtloiaaolnfimgaaGreat
namespace Go.Proofs.YtloiaaolnfimgaaGreat
open Go.RowKit Go.ChangeShapes Go.WideShapes Go.ChangeAt
section
variable {P : Program} {W : World}
theorem eqgI {op : BinOp} {t : TypeId} {x y : Operand} {k k' : IntKind} {i j : Int} : (eqGuard op t x y (.int k i) (.int k' j)).run P W = .ok () W := by cases op <;> rfl
theorem eqgB {op : BinOp} {t : TypeId} {x y : Operand} {i j : Bool} : (eqGuard op t x y (.bool i) (.bool j)).run P W = .ok () W := by cases op <;> rfl
theorem eqgS {op : BinOp} {t : TypeId} {x y : Operand} {i j : ByteArray} : (eqGuard op t x y (.string i) (.string j)).run P W = .ok () W := by cases op <;> rfl
end
section
variable {w : World}
end
end Go.Proofs.YtloiaaolnfimgaaGreat
namespace Go.Proofs.YtloiaaolnfimgaaGreat
open Go.RowKit
end Go.Proofs.YtloiaaolnfimgaaGreat
namespace Go.Proofs.YtloiaaolnfimgaaGreat
open Go.RowKit
section
variable {P : Program} {ops : Array Oper} {rest : List Oper} {o : Oper} {a : Act} {w : World} {Q : Exit → Act → World → Prop}
end
end Go.Proofs.YtloiaaolnfimgaaGreat
namespace Go.Proofs.YtloiaaolnfimgaaGreat
open Go.RowKit
end Go.Proofs.YtloiaaolnfimgaaGreat
namespace Go.Proofs.YtloiaaolnfimgaaGreat
open Go.RowKit
section
variable {F : Fence} {n : Nat} {P : Program}
end
end Go.Proofs.YtloiaaolnfimgaaGreat
namespace Go.Proofs.YtloiaaolnfimgaaGreat
open Go.RowKit
end Go.Proofs.YtloiaaolnfimgaaGreat
namespace Go.Proofs.YtloiaaolnfimgaaGreat
open Go.RowKit
end Go.Proofs.YtloiaaolnfimgaaGreat
namespace Go.Proofs.YtloiaaolnfimgaaGreat
open Go.RowKit
end Go.Proofs.YtloiaaolnfimgaaGreat
namespace Go.Proofs.YtloiaaolnfimgaaGreat
open Go.RowKit
end Go.Proofs.YtloiaaolnfimgaaGreat
namespace Go.Proofs.YtloiaaolnfimgaaGreat
open Go.RowKit
end Go.Proofs.YtloiaaolnfimgaaGreat
namespace Go.Proofs.YtloiaaolnfimgaaGreat
open Go.RowKit
end Go.Proofs.YtloiaaolnfimgaaGreat
namespace Go.Proofs.YtloiaaolnfimgaaGreat
open Go.RowKit
end Go.Proofs.YtloiaaolnfimgaaGreat
namespace Go.Proofs.YtloiaaolnfimgaaGreat
open Go.RowKit
section
variable {P : Program}
end
end Go.Proofs.YtloiaaolnfimgaaGreat
namespace Go.Proofs.YtloiaaolnfimgaaGreat
open Go.RowKit
end Go.Proofs.YtloiaaolnfimgaaGreat
namespace Go.Proofs.YtloiaaolnfimgaaGreat
open Go.RowKit
end Go.Proofs.YtloiaaolnfimgaaGreat
namespace Go.Proofs.YtloiaaolnfimgaaGreat
open Go.RowKit Go.Builtin
end Go.Proofs.YtloiaaolnfimgaaGreat
namespace Go.Proofs.YtloiaaolnfimgaaGreat
open Go.RowKit
end Go.Proofs.YtloiaaolnfimgaaGreat
namespace Go.Proofs.YtloiaaolnfimgaaGreat
open Go.RowKit
end Go.Proofs.YtloiaaolnfimgaaGreat
namespace Go.Proofs.YtloiaaolnfimgaaGreat
open Go.RowKit
end Go.Proofs.YtloiaaolnfimgaaGreat
namespace Go.Proofs.YtloiaaolnfimgaaGreat
open Go.RowKit
end Go.Proofs.YtloiaaolnfimgaaGreat
namespace Go.Proofs.YtloiaaolnfimgaaGreat
open Go.RowKit
end Go.Proofs.YtloiaaolnfimgaaGreat
namespace Go.Proofs.YtloiaaolnfimgaaGreat
open Go.ChangeShapes Go.WideShapes Go.ChangeAt Go.RowKit
end Go.Proofs.YtloiaaolnfimgaaGreat
namespace Go.Proofs.YtloiaaolnfimgaaGreat
open Go.RowKit
end Go.Proofs.YtloiaaolnfimgaaGreat
namespace Go.Proofs.YtloiaaolnfimgaaGreat
open Go.RowKit
section
variable {P : Program}
end
end Go.Proofs.YtloiaaolnfimgaaGreat
namespace Go.Proofs.YtloiaaolnfimgaaGreat
open Go.RowKit
section
variable {P : Program} {Q : Exit → Act → World → Prop}
end
end Go.Proofs.YtloiaaolnfimgaaGreat
namespace Go.Proofs.YtloiaaolnfimgaaGreat
open Go.RowKit
section
variable {P : Program} {Q : Exit → Act → World → Prop}
end
end Go.Proofs.YtloiaaolnfimgaaGreat
namespace Go.Proofs.YtloiaaolnfimgaaGreat
open Go.RowKit
end Go.Proofs.YtloiaaolnfimgaaGreat
namespace Go.Proofs.YtloiaaolnfimgaaGreat
open Go.RowKit
section
variable (B n : Nat) (U : TypeId) (c : UInt8) (T : TypeId) (hTU : T ≠ U) (k j : Nat)
end
end Go.Proofs.YtloiaaolnfimgaaGreat
namespace Go.Proofs.YtloiaaolnfimgaaGreat
open Go.RowKit
section
variable {F : Fence} {n : Nat} {P : Program}
end
end Go.Proofs.YtloiaaolnfimgaaGreat
namespace Go.Proofs.YtloiaaolnfimgaaGreat
open Go.RowKit
section
variable {U : TypeId} {w w' : World} {base : Nat} {v : Value} {l : List UInt8}
end
end Go.Proofs.YtloiaaolnfimgaaGreat
namespace Go.Proofs.YtloiaaolnfimgaaGreat
open Go.RowKit
set_option maxRecDepth 100000 in
theorem refText_any (s : List UInt8) (w : World) (hs : s.length ≤ 100000000) : Calls Tryz.prog 75 #[.string ⟨s.toArray⟩] w fun e w' => ∃ v', e = .returned v' ∧ Own 5 w' w.heap.size v' (Wr.bytes s.length ++ s) ∧ Later w w' := by
  have hnum := refNumber_any s.length w (by omega)
  have hbl := Wr.bytes_le s.length
  have hsz : (⟨s.toArray⟩ : ByteArray).size = s.length := by simp [ByteArray.size]
  generalize hlen : s.length = n at *
  go_enter Tryz.func75, Tryz.ntmps75
  go_wp2_with (first
    | (go_at_call 63; refine hnum.mono ?_; clear hnum; rintro e w1 ⟨v1, rfl, hown1, hL1⟩; obtain ⟨A1, n1, c1, rfl⟩ := hown1.shape)
    | (at_builtin; refine wpList_append_str rfl (.tmp 5) (.tmp 6) 60 9 rfl w.heap.size 5 Tryz.underlying60 Tryz.underlying9 byteInfo _ (Wr.bytes n) rfl hown1 s rfl (by omega) hL1.size ?_; intro v4 w4 hown4 hg4 hat4; obtain ⟨A4, n4, c4, rfl⟩ := hown4.shape)
    | fail)
  go_ret
  exact ⟨_, rfl, hown4, hL1.grown hg4 hL1.size (fun q e => (hown1.at_ q e).1)⟩
end Go.Proofs.YtloiaaolnfimgaaGreat
namespace Go.Proofs.YtloiaaolnfimgaaGreat
open Go.RowKit
section
variable {P : Program} {Q : Exit → Act → World → Prop} {o : Oper} {a : Act} {W : World} {R : Value → World → Prop}
end
end Go.Proofs.YtloiaaolnfimgaaGreat
namespace Go.Proofs.YtloiaaolnfimgaaGreat
open Go.RowKit Go.ChangeShapes Go.WideShapes Go.ChangeAt
section
variable {P : Program} {W : World}
end
section
variable {w : World}
end
end Go.Proofs.YtloiaaolnfimgaaGreat
namespace Go.Proofs.YtloiaaolnfimgaaGreat
open Go.RowKit
end Go.Proofs.YtloiaaolnfimgaaGreat
namespace Go.Proofs.YtloiaaolnfimgaaGreat
open Go.RowKit
section
variable {P : Program} {ops : Array Oper} {rest : List Oper} {o : Oper} {a : Act} {w : World} {Q : Exit → Act → World → Prop}
end
end Go.Proofs.YtloiaaolnfimgaaGreat
namespace Go.Proofs.YtloiaaolnfimgaaGreat
open Go.RowKit
end Go.Proofs.YtloiaaolnfimgaaGreat
namespace Go.Proofs.YtloiaaolnfimgaaGreat
open Go.RowKit
section
variable {F : Fence} {n : Nat} {P : Program}
end
end Go.Proofs.YtloiaaolnfimgaaGreat
namespace Go.Proofs.YtloiaaolnfimgaaGreat
open Go.RowKit Rt
section
variable {P : Program} {ops : Array Oper} {rest : List Oper} {o : Oper} {a : Act} {w : World} {Q : Exit → Act → World → Prop}
end
theorem loadKeyR {w : World} {g : Nat} {t : TypeId} {h : Hop} (hw : h.wf) (hr : Row w g t (hopC h)) : (Instr.loadAt 25 (.pointer (some ⟨g, 0, none⟩))).run Tryz.prog w = .ok (.agg (hC h.key)) w := by
  have hz := hC_size h.key (Nat.le_of_eq hw.1)
  exact run_load_part hr (fun j hj => by rw [Nat.zero_add]; exact hopC_key hw j (by omega)) Tryz.underlying25 rfl (by rw [hz]; exact infoH)
end Go.Proofs.YtloiaaolnfimgaaGreat
namespace Go.Proofs.YtloiaaolnfimgaaGreat
open Go.RowKit Rt
section
variable {P : Program} {Q : Exit → Act → World → Prop} {o : Oper} {a : Act} {W : World} {R : Value → World → Prop}
end
section
variable {g o : Nat} {W : World}
end
theorem loadHopM {w : World} {b o : Nat} {h : Hop} (hw : h.wf) (hr : w.rangeAt b o (hopL h)) : (Instr.loadAt 27 (.pointer (some ⟨b, o, none⟩))).run Tryz.prog w = .ok (.agg (hopC h)) w := by
  have := run_loadAt_mid (P := Tryz.prog) w b o 27 (hopL h) _ hr Tryz.underlying27 rfl (by rw [hopL_len hw]; exact infoHop)
  rwa [Array.toArray_toList] at this
end Go.Proofs.YtloiaaolnfimgaaGreat
namespace Go.Proofs.YtloiaaolnfimgaaGreat
open Go.RowKit Rt
section
variable {P : Program}
end
theorem neqHopMe {h : Hop} (hw : h.wf) (w : World) : (binOp .neq 27 (.agg (hopC h)) (.agg (hopC h))).run Tryz.prog w = .ok (.bool false) w := by
  rw [run_neq_struct, eqHop 9996 hw hw, hEq_refl]
  rfl
end Go.Proofs.YtloiaaolnfimgaaGreat
namespace Go.Proofs.YtloiaaolnfimgaaGreat
open Go.RowKit Rt
theorem cmpL {P : Program} {T : TypeId} {x y : Int} {b : Bool} {W : World} (h : decide (x < y) = b) : (binOp .lss T (.int .i64 x) (.int .i64 y)).run P W = .ok (.bool b) W := by subst h; kernel_rfl
theorem range_later {w W : World} {b o : Nat} {vs : List Value} (hr : w.rangeAt b o vs) (hL : Later w W) : W.rangeAt b o vs := fun j v hv => Later.cell hL (hr j v hv)
theorem infoHopG : (Tryz.prog.info? 27).map (fun i => (i.zero, i.size, i.bytes)) = some (some (Value.agg (hopC noHop)), 66, 80) := by kernel_rfl
theorem buildHops0 (f : Nat → Value) (w : World) : (Instr.buildSlice 22 1 #[(0, .agg ((List.range 66).map f).toArray)]).run Tryz.prog w = .ok (.slice (some ⟨w.heap.size, 0, none⟩) 1 1) (w.alloc (.cells ((List.range 66).map f).toArray 27)) := by kernel_rfl
theorem buildHops1 {h : Hop} (hw : h.wf) (w : World) : (Instr.buildSlice 22 1 #[(0, .agg (hopC h))]).run Tryz.prog w = .ok (.slice (some ⟨w.heap.size, 0, none⟩) 1 1) (w.alloc (.cells (hopC h) 27)) := by
  rw [arr_range (hopC h) 66 (hopC_size hw)]
  exact buildHops0 _ w
theorem hopL_ok {h : Hop} (hw : h.wf) : (hopL h).length = 66 ∧ ∀ u ∈ hopL h, u.oneCell' = true := ⟨hopL_len hw, hopL_one h⟩
end Go.Proofs.YtloiaaolnfimgaaGreat
namespace Go.Proofs.YtloiaaolnfimgaaGreat
open Go.RowKit Rt
theorem buildI2 (a b : Int) (w : World) : (Instr.buildSlice 101 2 #[(0, .int .i64 a), (1, .int .i64 b)]).run Tryz.prog w = .ok (.slice (some ⟨w.heap.size, 0, none⟩) 2 2) (w.alloc (.cells #[.int .i64 a, .int .i64 b] 2)) := by kernel_rfl
theorem rdI_two (a b : Int) (w : World) : RdV (w.alloc (.cells #[.int .i64 a, .int .i64 b] 2)) (some ⟨w.heap.size, 0, none⟩) ([a, b].map numV) := fun _ => by
  have hr := Row.new w 2 #[.int .i64 a, .int .i64 b]
  refine ⟨_, _, rfl, fun i hi => ?_⟩
  have hi2 : i = 0 ∨ i = 1 := by simp at hi; omega
  rcases hi2 with rfl | rfl
  · exact (hr.cell 0).trans rfl
  · exact (hr.cell 1).trans rfl
end Go.Proofs.YtloiaaolnfimgaaGreat
namespace Go.Proofs.YtloiaaolnfimgaaGreat
open Go.RowKit
section
variable {P : Program} {Q : Exit → Act → World → Prop}
structure EnvV (ops : Array Oper) (a0 : Act) (c : Nat → Value) (so : List Nat) (rs : List Value) (i : Nat) (a : Act) : Prop where
  keep : ∀ y, keepsB ops i y = true → a.eval y = a0.eval y
  val : ∀ j t, waits ops i j = true → dstOf ops j = some t → so.contains j = false → a.eval (.tmp t) = c j
  res : ∀ j t, j < so.length → waits ops i (so.getD j 0) = true → dstOf ops (so.getD j 0) = some t → a.eval (.tmp t) = rs.getD j undef
  defers : a.defers = a0.defers
def CvStep (P : Program) (ops : Array Oper) (Q : Exit → Act → World → Prop) (a0 : Act) (c : Nat → Value) (so : List Nat) (A : List Value → World → Prop) (i : Nat) (o : Oper) : Prop :=
  match so.idxOf? i with
  | some k => (k = 0 ∨ waits ops i (so.getD (k - 1) 0) = true) ∧ ∀ a W rs, rs.length = k → EnvV ops a0 c so rs i a → A rs W → o.guard = none ∧ o.wp P a W (fun a' W' => ∃ v, a' = a.put o.dst v ∧ A (rs ++ [v]) W') Q
  | none => ∀ a W rs, EnvV ops a0 c so rs i a → A rs W → StepOk P ops Q o a W (fun v _ => v = c i)
theorem cvStep_val {ops : Array Oper} {a0 : Act} {c : Nat → Value} {so : List Nat} {A : List Value → World → Prop} {i : Nat} {o : Oper} (h : so.idxOf? i = none) (hs : ∀ a W rs, EnvV ops a0 c so rs i a → A rs W → StepOk P ops Q o a W (fun v _ => v = c i)) : CvStep P ops Q a0 c so A i o := by
  unfold CvStep
  rw [h]
  exact hs
theorem cvStep_put {ops : Array Oper} {a0 : Act} {c : Nat → Value} {so : List Nat} {A : List Value → World → Prop} {i k : Nat} {o : Oper} (h : so.idxOf? i = some k) (hw : k = 0 ∨ waits ops i (so.getD (k - 1) 0) = true) (hs : ∀ a W rs, rs.length = k → EnvV ops a0 c so rs i a → A rs W → o.guard = none ∧ o.wp P a W (fun a' W' => ∃ v, a' = a.put o.dst v ∧ A (rs ++ [v]) W') Q) : CvStep P ops Q a0 c so A i o := by
  unfold CvStep
  rw [h]
  exact ⟨hw, hs⟩
theorem take_upd {so : List Nat} {xs : Nat → Value} {i k : Nat} {v : Value} (hkl : k < so.length) (hki : so.getD k 0 = i) (hnd : so.Nodup) : (so.take (k + 1)).map (upd xs i v) = (so.take k).map xs ++ [v] := by
  rw [List.take_succ_eq_append_getElem hkl, List.map_append, List.map_cons, List.map_nil]
  have e : so[k] = i := by rw [← hki, List.getD_eq_getElem?_getD, List.getElem?_eq_getElem hkl]; rfl
  rw [e, upd_self]
  congr 1
  apply List.map_congr_left
  intro x hx
  refine upd_ne xs v (fun e2 => ?_)
  obtain ⟨j, hj, hjx⟩ := List.getElem_of_mem hx
  rw [List.getElem_take] at hjx
  have hj' : j < k ∧ j < so.length := by rw [List.length_take] at hj; omega
  have : so[j] = so[k] := by rw [hjx, e2, e]
  have := (List.getElem_inj hnd).1 this
  omega
theorem wpIn_region_cv {F : Fence} (hF : Wide F) {n : Nat} {id : Nat} {o : Oper} {os : List Oper} {a0 : Act} {w : World} (cs : List Value) (so : List Nat) (A : List Value → World → Prop) (hA : ∀ rs W W', Later W W' → A rs W → A rs W') (hA0 : A [] w)
    (hm : P.follows .mixedOrders = true) (hp : plainAll (o :: os).toArray = true) (hd : dstsB (o :: os).toArray = true) (hb : backB (o :: os).toArray = true) (ha : ancB (o :: os).toArray = true) (hin : dstIn (o :: os).toArray a0.tmps.size = true) (hg : (lastL o os).guard = none)
    (hnd : so.Nodup) (hso : (so.all fun i => decide (i < (initL o os).length)) = true)
    (step : AllFrom (CvStep P (o :: os).toArray Q a0 (fun i => cs.getD i undef) so A) 0 (initL o os))
    (fin : ∀ xs W, A (so.map xs) W → (∀ j, j < (initL o os).length → so.contains j = false → xs j = cs.getD j undef) → (∀ y, keepsB (o :: os).toArray (initL o os).length y = true → (putL (initL o os) 0 xs a0).eval y = a0.eval y) → (∀ j t, j < (initL o os).length → dstOf (o :: os).toArray j = some t → (putL (initL o os) 0 xs a0).eval (.tmp t) = xs j) →
      LastOk P (lastL o os) (putL (initL o os) 0 xs a0) W Q) : (Code.region id (o :: os).toArray true).wpIn F n P Q a0 w := by
  refine wpIn_region_lastY hF (fun f xs W => (∀ i, f i = true → so.contains i = false → xs i = cs.getD i undef) ∧ ∃ m, m ≤ so.length ∧ (∀ k, k < so.length → f (so.getD k 0) = decide (k < m)) ∧ A ((so.take m).map xs) W) ⟨fun i h => by simp at h, 0, Nat.zero_le _, fun k _ => by simp, hA _ _ _ ((Later.refl w).drew) hA0⟩ hm hp hd hb ha hin hg ?_ ?_
  · have key : ∀ (l : List Oper) (i : Nat), AllFrom (CvStep P (o :: os).toArray Q a0 (fun i => cs.getD i undef) so A) i l → AllFrom (fun i o' => ∀ a W f xs, ((∀ i, f i = true → so.contains i = false → xs i = cs.getD i undef) ∧ ∃ m, m ≤ so.length ∧ (∀ k, k < so.length → f (so.getD k 0) = decide (k < m)) ∧ A ((so.take m).map xs) W) → EnvY (o :: os).toArray a0 f i a xs →
        StepOkY P (o :: os).toArray Q o' a W (fun v W' => (∀ j, updB f i j = true → so.contains j = false → upd xs i v j = cs.getD j undef) ∧ ∃ m, m ≤ so.length ∧ (∀ k, k < so.length → updB f i (so.getD k 0) = decide (k < m)) ∧ A ((so.take m).map (upd xs i v)) W')) i l := by
      intro l
      induction l with
      | nil => intro i h; exact h
      | cons o' l ih =>
        intro i h
        obtain ⟨h1, h2⟩ := h
        refine ⟨fun a W f xs hI he => ?_, ih _ h2⟩
        obtain ⟨hc, m, hml, hfm, hAm⟩ := hI
        have henv : EnvV (o :: os).toArray a0 (fun i => cs.getD i undef) so ((so.take m).map xs) i a := ⟨he.keep, fun j t hw ht hj => (he.val j t hw ht).trans (hc j (he.done j hw) hj), fun j t hj hw ht => (he.val _ t hw ht).trans (by
          have h5 := he.done _ hw
          rw [hfm j hj] at h5
          have h6 := of_decide_eq_true h5
          rw [List.getD_eq_getElem?_getD, List.getD_eq_getElem?_getD, List.getElem?_map, List.getElem?_take_of_lt h6, List.getElem?_eq_getElem hj]
          rfl), he.defers⟩
        unfold CvStep at h1
        cases hk : so.idxOf? i with
        | some k =>
          rw [hk] at h1
          obtain ⟨hw, h3⟩ := h1
          obtain ⟨hkl, hki⟩ := idxOf_getD hk
          have e1 : ¬ k < m := by
            have := hfm k hkl
            rw [hki, he.todo] at this
            intro h
            rw [decide_eq_true h] at this
            cases this
          have e2 : k ≤ m := by
            rcases hw with h | h
            · omega
            · by_cases h0 : k = 0
              · omega
              have h4 := he.done _ h
              rw [hfm (k - 1) (by omega)] at h4
              have := of_decide_eq_true h4
              omega
          obtain rfl : k = m := by omega
          obtain ⟨hg', h4⟩ := h3 a W _ (by rw [List.length_map, List.length_take]; omega) henv hAm
          have hsc : so.contains i = true := by
            rw [List.contains_iff_mem, ← hki, List.getD_eq_getElem?_getD, List.getElem?_eq_getElem hkl]
            exact List.getElem_mem hkl
          refine stepOkY_want hg' (Oper.wp_mono (fun a' W' ⟨v, e, hv⟩ => ⟨v, e, fun j hj hjs => ?_, k + 1, hkl, fun k' hk' => ?_, by rw [take_upd hkl hki hnd]; exact hv⟩) h4)
          · have hji : j ≠ i := fun e => by rw [e, hsc] at hjs; cases hjs
            rw [upd_ne xs v hji]
            exact hc j (by simpa [updB, hji] using hj) hjs
          · by_cases e : k' = k
            · subst e
              rw [hki]
              simp [updB]
            · have hne : so.getD k' 0 ≠ i := fun e3 => e (by
                rw [← hki, List.getD_eq_getElem?_getD, List.getD_eq_getElem?_getD, List.getElem?_eq_getElem hkl, List.getElem?_eq_getElem hk'] at e3
                exact (List.getElem_inj hnd).1 e3)
              have := hfm k' hk'
              simp only [updB, if_neg hne, this]
              exact decide_eq_decide.2 (by omega)
        | none =>
          rw [hk] at h1
          have h4 := h1 a W _ henv hAm
          have hR : ∀ v W', Later W W' → v = cs.getD i undef → (∀ j, updB f i j = true → so.contains j = false → upd xs i v j = cs.getD j undef) ∧ ∃ m, m ≤ so.length ∧ (∀ k, k < so.length → updB f i (so.getD k 0) = decide (k < m)) ∧ A ((so.take m).map (upd xs i v)) W' := fun v W' hL hv => by
            refine ⟨fun j hj hjs => ?_, m, hml, fun k hkl => ?_, ?_⟩
            rotate_left 2
            · have e : (so.take m).map (upd xs i v) = (so.take m).map xs := List.map_congr_left fun x hx => upd_ne xs v (fun e2 => by
                obtain ⟨j, hj, hjx⟩ := List.getElem_of_mem hx
                rw [List.getElem_take] at hjx
                have hj' : j < so.length := by rw [List.length_take] at hj; omega
                refine idxOf_none hk j hj' ?_
                rw [List.getD_eq_getElem?_getD, List.getElem?_eq_getElem hj', ← e2, ← hjx]
                rfl)
              rw [e]
              exact hA _ _ _ hL hAm
            · by_cases e : j = i
              · subst e; rw [upd_self]; exact hv
              · rw [upd_ne xs v e]
                exact hc j (by simpa [updB, e] using hj) hjs
            · have hne := idxOf_none hk k hkl
              simp only [updB, if_neg hne]
              exact hfm k hkl
          unfold StepOk at h4
          unfold StepOkY
          split
          · rename_i hw
            rw [if_pos hw] at h4
            exact Oper.wp_mono (fun a' W' ⟨v, e, hL, hv⟩ => ⟨v, e, hR v W' hL hv⟩) h4
          · rename_i hw
            rw [if_neg hw] at h4
            exact hR _ _ (Later.refl W) h4
    exact key _ _ step
  · intro f xs W hI hall _ hk hget
    obtain ⟨hc, m, hml, hfm, hAm⟩ := hI
    have hmm : m = so.length := by
      by_cases e : m = so.length
      · exact e
      have hlt : m < so.length := by omega
      have h1 := hfm m hlt
      rw [hall] at h1
      · simp at h1
      · have := List.all_eq_true.1 hso (so.getD m 0) (by
          rw [List.getD_eq_getElem?_getD, List.getElem?_eq_getElem hlt]
          exact List.getElem_mem hlt)
        exact of_decide_eq_true this
    subst hmm
    rw [List.take_of_length_le (Nat.le_refl _)] at hAm
    exact fin xs W hAm (fun j hj hjs => hc j (hall j hj) hjs) hk hget
end
end Go.Proofs.YtloiaaolnfimgaaGreat
namespace Go.Proofs.YtloiaaolnfimgaaGreat
open Go.RowKit Rt
namespace Rt
end Rt
section
variable {P : Program} {ops : Array Oper} {rest : List Oper} {o : Oper} {a : Act} {w : World} {Q : Exit → Act → World → Prop}
end
def Pr.slM (n : Nat) (l : List UInt8) : Pr := ⟨fun v W => ∃ S c, v = .slice S n c ∧ n ≤ c ∧ c ≤ 9223372036854775807 ∧ Rd W S l, fun _ _ _ ⟨S, c, e, h1, h2, h3⟩ hL => ⟨S, c, e, h1, h2, h3.later hL⟩⟩
section
variable {w W W' : World} {g g2 q q5 q6 q9 : Nat} {key : List UInt8} {A0 : Option Addr} {b : List UInt8} {s : List UInt8 × Bool} {h : Hop} {r : ByteArray} {x : Int}
end
end Go.Proofs.YtloiaaolnfimgaaGreat
namespace Go.Proofs.YtloiaaolnfimgaaGreat
open Go.RowKit Rt
theorem ldStr {b o : Nat} {x : ByteArray} {W : World} (hc : W.cell? ⟨b, o, none⟩ = some (.string x)) : (Instr.loadAt 9 (.pointer (some ⟨b, o, none⟩))).run Tryz.prog W = .ok (.string x) W := by
  go_simp
theorem stStr {b o : Nat} {x y : ByteArray} {W : World} (hc : W.cell? ⟨b, o, none⟩ = some (.string x)) (hf : W.frozen? ⟨b, o, none⟩ = false) : (Instr.storeAt 9 (.pointer (some ⟨b, o, none⟩)) (.string y)).run Tryz.prog W = .ok () (W.setCell ⟨b, o, none⟩ (.string y)) := by
  go_simp
end Go.Proofs.YtloiaaolnfimgaaGreat
namespace Go.Proofs.YtloiaaolnfimgaaGreat
open Go.RowKit Rt
theorem build1Sg (w : World) (A : Option Addr) (n c : Nat) : (Instr.buildSlice 142 1 #[(0, .slice A n c)]).run Tryz.prog w = .ok (.slice (some ⟨w.heap.size, 0, none⟩) 1 1) (w.alloc (.cells #[.slice A n c] 60)) := by kernel_rfl
theorem mask_len (key tag b : List UInt8) : (mask key tag b).length = b.length := by
  unfold mask
  rw [xorL_len (by rw [Hm.expand_len]; exact Nat.le_refl _)]
end Go.Proofs.YtloiaaolnfimgaaGreat
namespace Go.Proofs.YtloiaaolnfimgaaGreat
open Go.RowKit Rt
theorem boxHopA {h : Hop} (hw : h.wf) (w : World) : (Instr.box 27 (.agg (hopC h))).run Tryz.prog w = .ok (.pointer (some ⟨w.heap.size, 0, none⟩)) (w.alloc (.cells (hopC h) 27)) :=
  run_box_row w _ _ (by rw [hopC_size hw]; exact infoHop)
set_option maxRecDepth 100000 in
theorem refhop_any (h : Hop) (hw : h.wf) (w : World) : Calls Tryz.prog 28 #[.agg (hopC h)] w fun e w' => e = .returned (.bool (paid h.amt h.exp)) ∧ Later w w' := by
  refine Calls.post fun Φ HΦ => ?_
  have hbx := boxHopA hw w
  have hr := Row.new w 27 (hopC h)
  have hL : Later w (w.alloc (.cells (hopC h) 27)) := below_new w _
  have hc2 := cHop2 hw hr
  have hc3 := cHop3 hw hr
  have h2 := fun W => right5_any h.amt W
  obtain ⟨b1, hb1⟩ : ∃ b, decide (0 < h.amt) = b := ⟨_, rfl⟩
  obtain ⟨b2, hb2⟩ : ∃ b, (!bad maxAmt h.amt) = b := ⟨_, rfl⟩
  obtain ⟨b3, hb3⟩ : ∃ b, decide (1 ≤ h.exp) = b := ⟨_, rfl⟩
  obtain ⟨b4, hb4⟩ : ∃ b, decide (h.exp ≤ 2147483647) = b := ⟨_, rfl⟩
  have hk : paid h.amt h.exp = (b1 && (b2 && (b3 && b4))) := by
    unfold paid
    rw [← hb1, ← hb2, ← hb3, ← hb4]
    unfold bad maxAmt
    rw [Bool.eq_iff_iff]
    simp only [Bool.and_eq_true, decide_eq_true_eq, Bool.not_eq_true', Bool.or_eq_false_iff, decide_eq_false_iff_not]
    omega
  simp only [hb2] at h2
  have HK := Lib.hid hk
  have HL := Lib.hid hL
  clear hk hb2
  go_enter Tryz.func28, Tryz.ntmps28
  go_upto_region 1 with (first
    | (guard_target =~ wpList _ _ _ (_ :: _) _ _; refine wpList_box rfl 27 (.tmp 0) rfl (.agg (hopC h)) rfl hbx ?_)
    | fail)
  obtain ⟨g, hg⟩ : ∃ g, g = w.heap.size := ⟨_, rfl⟩
  rw [← hg] at hc2 hc3 ⊢
  by_cases hc1 : b1 = false
  · subst hc1
    refine wp_region_seqL [Pr.eq (.pointer (some ⟨g, 64, none⟩)), Pr.eq (.int .i64 h.amt), Pr.eq (.bool false), Pr.eq (.bool false), Pr.eq (undef), Pr.eq (undef), Pr.eq (undef), Pr.eq (.bool false), Pr.eq (.bool false), Pr.eq (undef), Pr.eq (undef), Pr.eq (undef), Pr.eq (.bool false), Pr.eq (.bool false), Pr.eq (undef), Pr.eq (undef), Pr.eq (undef), Pr.eq (.bool false), Pr.eq (.bool false)] (by kernel_rfl) (by kernel_rfl) (by kernel_rfl) ⟨?_, ?_, ?_, ?_, ?_, ?_, ?_, ?_, ?_, ?_, ?_, ?_, ?_, ?_, ?_, ?_, ?_, ?_, ?_, trivial⟩ ?_
    · exact fun ac W hL he => stepOk_want rfl (op_fieldAddr rfl (he.keep (.tmp 1) (by kernel_rfl)) fHop2 rfl)
    · exact fun ac W hL he => stepOk_want rfl (op_load rfl (he.get 0 3 (by kernel_rfl) rfl) (ldI64 (Later.cell hL hc2)) rfl)
    · exact fun ac W hL he => stepOk_want rfl (op_binOp rfl (he.get 1 4 (by kernel_rfl) rfl) rfl (eqg_any rfl) (cmpG hb1) rfl)
    · exact fun ac W hL he => stepOk_want rfl (op_move rfl (he.get 2 5 (by kernel_rfl) rfl))
    · exact fun ac W hL he => stepOk_no rfl rfl (he.get 3 6 (by kernel_rfl) rfl) (by decide) rfl
    · exact fun ac W hL he => stepOk_no rfl rfl (he.get 3 6 (by kernel_rfl) rfl) (by decide) rfl
    · exact fun ac W hL he => stepOk_no rfl rfl (he.get 3 6 (by kernel_rfl) rfl) (by decide) rfl
    · exact fun ac W hL he => stepOk_want rfl (op_pick (b := false) rfl (he.get 3 6 (by kernel_rfl) rfl) rfl)
    · exact fun ac W hL he => stepOk_want rfl (op_move rfl (he.get 7 10 (by kernel_rfl) rfl))
    · exact fun ac W hL he => stepOk_no rfl rfl (he.get 8 11 (by kernel_rfl) rfl) (by decide) rfl
    · exact fun ac W hL he => stepOk_no rfl rfl (he.get 8 11 (by kernel_rfl) rfl) (by decide) rfl
    · exact fun ac W hL he => stepOk_no rfl rfl (he.get 8 11 (by kernel_rfl) rfl) (by decide) rfl
    · exact fun ac W hL he => stepOk_want rfl (op_pick (b := false) rfl (he.get 8 11 (by kernel_rfl) rfl) rfl)
    · exact fun ac W hL he => stepOk_want rfl (op_move rfl (he.get 12 15 (by kernel_rfl) rfl))
    · exact fun ac W hL he => stepOk_no rfl rfl (he.get 13 16 (by kernel_rfl) rfl) (by decide) rfl
    · exact fun ac W hL he => stepOk_no rfl rfl (he.get 13 16 (by kernel_rfl) rfl) (by decide) rfl
    · exact fun ac W hL he => stepOk_no rfl rfl (he.get 13 16 (by kernel_rfl) rfl) (by decide) rfl
    · exact fun ac W hL he => stepOk_want rfl (op_pick (b := false) rfl (he.get 13 16 (by kernel_rfl) rfl) rfl)
    · exact fun ac W hL he => stepOk_want rfl (op_assign rfl (he.get 17 20 (by kernel_rfl) rfl))
    intro xs W hL2 hx
    have v18 : xs 18 = .bool false := hx 18 (by decide)
    simp only [putL, Nat.reduceAdd, Act.put, List.setIfInBounds_toArray, List.set_cons_succ, List.set_cons_zero]
    rw [v18]
    clear hx v18
    go_wp2_with fail
    exact HΦ.out _ _ ⟨by rw [HK.out]; simp, HL.out.step hL2⟩
  have hc1' : b1 = true := by revert hc1; cases b1 <;> simp
  clear hc1
  subst hc1'
  by_cases hc2 : b2 = false
  · subst hc2
    refine wp_region_seqL [Pr.eq (.pointer (some ⟨g, 64, none⟩)), Pr.eq (.int .i64 h.amt), Pr.eq (.bool true), Pr.eq (.bool true), Pr.eq (.pointer (some ⟨g, 64, none⟩)), Pr.eq (.int .i64 h.amt), Pr.eq (.bool false), Pr.eq (.bool false), Pr.eq (.bool false), Pr.eq (undef), Pr.eq (undef), Pr.eq (undef), Pr.eq (.bool false), Pr.eq (.bool false), Pr.eq (undef), Pr.eq (undef), Pr.eq (undef), Pr.eq (.bool false), Pr.eq (.bool false)] (by kernel_rfl) (by kernel_rfl) (by kernel_rfl) ⟨?_, ?_, ?_, ?_, ?_, ?_, ?_, ?_, ?_, ?_, ?_, ?_, ?_, ?_, ?_, ?_, ?_, ?_, ?_, trivial⟩ ?_
    · exact fun ac W hL he => stepOk_want rfl (op_fieldAddr rfl (he.keep (.tmp 1) (by kernel_rfl)) fHop2 rfl)
    · exact fun ac W hL he => stepOk_want rfl (op_load rfl (he.get 0 3 (by kernel_rfl) rfl) (ldI64 (Later.cell hL hc2)) rfl)
    · exact fun ac W hL he => stepOk_want rfl (op_binOp rfl (he.get 1 4 (by kernel_rfl) rfl) rfl (eqg_any rfl) (cmpG hb1) rfl)
    · exact fun ac W hL he => stepOk_want rfl (op_move rfl (he.get 2 5 (by kernel_rfl) rfl))
    · exact fun ac W hL he => stepOk_yes (j := 3) (t := 6) (b := true) rfl rfl (he.get 3 6 (by kernel_rfl) rfl) (op_fieldAddr rfl (he.keep (.tmp 1) (by kernel_rfl)) fHop2 rfl)
    · exact fun ac W hL he => stepOk_yes (j := 3) (t := 6) (b := true) rfl rfl (he.get 3 6 (by kernel_rfl) rfl) (op_load rfl (he.get 4 7 (by kernel_rfl) rfl) (ldI64 (Later.cell hL hc2)) rfl)
    · intro ac W hL he; refine stepOk_yes (j := 3) (t := 6) (b := true) rfl rfl (he.get 3 6 (by kernel_rfl) rfl) ?_; have e0 : ac.eval (.tmp 8) = .int .i64 h.amt := (he.get 5 8 (by kernel_rfl) rfl); exact op_callF (vs := #[.int .i64 h.amt]) rfl (by simp only [List.map_toArray, List.map_cons, List.map_nil, e0]) (enters_of Tryz.func50 (by kernel_rfl) rfl) (((h2 W)).mono fun e W' ⟨he', hw'⟩ => ⟨_, he', hw' ▸ Later.refl _, rfl⟩)
    · exact fun ac W hL he => stepOk_want rfl (op_pick (b := true) rfl (he.get 3 6 (by kernel_rfl) rfl) (he.get 6 9 (by kernel_rfl) rfl))
    · exact fun ac W hL he => stepOk_want rfl (op_move rfl (he.get 7 10 (by kernel_rfl) rfl))
    · exact fun ac W hL he => stepOk_no rfl rfl (he.get 8 11 (by kernel_rfl) rfl) (by decide) rfl
    · exact fun ac W hL he => stepOk_no rfl rfl (he.get 8 11 (by kernel_rfl) rfl) (by decide) rfl
    · exact fun ac W hL he => stepOk_no rfl rfl (he.get 8 11 (by kernel_rfl) rfl) (by decide) rfl
    · exact fun ac W hL he => stepOk_want rfl (op_pick (b := false) rfl (he.get 8 11 (by kernel_rfl) rfl) rfl)
    · exact fun ac W hL he => stepOk_want rfl (op_move rfl (he.get 12 15 (by kernel_rfl) rfl))
    · exact fun ac W hL he => stepOk_no rfl rfl (he.get 13 16 (by kernel_rfl) rfl) (by decide) rfl
    · exact fun ac W hL he => stepOk_no rfl rfl (he.get 13 16 (by kernel_rfl) rfl) (by decide) rfl
    · exact fun ac W hL he => stepOk_no rfl rfl (he.get 13 16 (by kernel_rfl) rfl) (by decide) rfl
    · exact fun ac W hL he => stepOk_want rfl (op_pick (b := false) rfl (he.get 13 16 (by kernel_rfl) rfl) rfl)
    · exact fun ac W hL he => stepOk_want rfl (op_assign rfl (he.get 17 20 (by kernel_rfl) rfl))
    intro xs W hL2 hx
    have v18 : xs 18 = .bool false := hx 18 (by decide)
    simp only [putL, Nat.reduceAdd, Act.put, List.setIfInBounds_toArray, List.set_cons_succ, List.set_cons_zero]
    rw [v18]
    clear hx v18
    go_wp2_with fail
    exact HΦ.out _ _ ⟨by rw [HK.out]; simp, HL.out.step hL2⟩
  have hc2' : b2 = true := by revert hc2; cases b2 <;> simp
  clear hc2
  subst hc2'
  by_cases hc3 : b3 = false
  · subst hc3
    refine wp_region_seqL [Pr.eq (.pointer (some ⟨g, 64, none⟩)), Pr.eq (.int .i64 h.amt), Pr.eq (.bool true), Pr.eq (.bool true), Pr.eq (.pointer (some ⟨g, 64, none⟩)), Pr.eq (.int .i64 h.amt), Pr.eq (.bool true), Pr.eq (.bool true), Pr.eq (.bool true), Pr.eq (.pointer (some ⟨g, 65, none⟩)), Pr.eq (.int .i64 h.exp), Pr.eq (.bool false), Pr.eq (.bool false), Pr.eq (.bool false), Pr.eq (undef), Pr.eq (undef), Pr.eq (undef), Pr.eq (.bool false), Pr.eq (.bool false)] (by kernel_rfl) (by kernel_rfl) (by kernel_rfl) ⟨?_, ?_, ?_, ?_, ?_, ?_, ?_, ?_, ?_, ?_, ?_, ?_, ?_, ?_, ?_, ?_, ?_, ?_, ?_, trivial⟩ ?_
    · exact fun ac W hL he => stepOk_want rfl (op_fieldAddr rfl (he.keep (.tmp 1) (by kernel_rfl)) fHop2 rfl)
    · exact fun ac W hL he => stepOk_want rfl (op_load rfl (he.get 0 3 (by kernel_rfl) rfl) (ldI64 (Later.cell hL hc2)) rfl)
    · exact fun ac W hL he => stepOk_want rfl (op_binOp rfl (he.get 1 4 (by kernel_rfl) rfl) rfl (eqg_any rfl) (cmpG hb1) rfl)
    · exact fun ac W hL he => stepOk_want rfl (op_move rfl (he.get 2 5 (by kernel_rfl) rfl))
    · exact fun ac W hL he => stepOk_yes (j := 3) (t := 6) (b := true) rfl rfl (he.get 3 6 (by kernel_rfl) rfl) (op_fieldAddr rfl (he.keep (.tmp 1) (by kernel_rfl)) fHop2 rfl)
    · exact fun ac W hL he => stepOk_yes (j := 3) (t := 6) (b := true) rfl rfl (he.get 3 6 (by kernel_rfl) rfl) (op_load rfl (he.get 4 7 (by kernel_rfl) rfl) (ldI64 (Later.cell hL hc2)) rfl)
    · intro ac W hL he; refine stepOk_yes (j := 3) (t := 6) (b := true) rfl rfl (he.get 3 6 (by kernel_rfl) rfl) ?_; have e0 : ac.eval (.tmp 8) = .int .i64 h.amt := (he.get 5 8 (by kernel_rfl) rfl); exact op_callF (vs := #[.int .i64 h.amt]) rfl (by simp only [List.map_toArray, List.map_cons, List.map_nil, e0]) (enters_of Tryz.func50 (by kernel_rfl) rfl) (((h2 W)).mono fun e W' ⟨he', hw'⟩ => ⟨_, he', hw' ▸ Later.refl _, rfl⟩)
    · exact fun ac W hL he => stepOk_want rfl (op_pick (b := true) rfl (he.get 3 6 (by kernel_rfl) rfl) (he.get 6 9 (by kernel_rfl) rfl))
    · exact fun ac W hL he => stepOk_want rfl (op_move rfl (he.get 7 10 (by kernel_rfl) rfl))
    · exact fun ac W hL he => stepOk_yes (j := 8) (t := 11) (b := true) rfl rfl (he.get 8 11 (by kernel_rfl) rfl) (op_fieldAddr rfl (he.keep (.tmp 1) (by kernel_rfl)) fHop3 rfl)
    · exact fun ac W hL he => stepOk_yes (j := 8) (t := 11) (b := true) rfl rfl (he.get 8 11 (by kernel_rfl) rfl) (op_load rfl (he.get 9 12 (by kernel_rfl) rfl) (ldI64 (Later.cell hL hc3)) rfl)
    · exact fun ac W hL he => stepOk_yes (j := 8) (t := 11) (b := true) rfl rfl (he.get 8 11 (by kernel_rfl) rfl) (op_binOp rfl (he.get 10 13 (by kernel_rfl) rfl) rfl (eqg_any rfl) (cmpGe hb3) rfl)
    · exact fun ac W hL he => stepOk_want rfl (op_pick (b := true) rfl (he.get 8 11 (by kernel_rfl) rfl) (he.get 11 14 (by kernel_rfl) rfl))
    · exact fun ac W hL he => stepOk_want rfl (op_move rfl (he.get 12 15 (by kernel_rfl) rfl))
    · exact fun ac W hL he => stepOk_no rfl rfl (he.get 13 16 (by kernel_rfl) rfl) (by decide) rfl
    · exact fun ac W hL he => stepOk_no rfl rfl (he.get 13 16 (by kernel_rfl) rfl) (by decide) rfl
    · exact fun ac W hL he => stepOk_no rfl rfl (he.get 13 16 (by kernel_rfl) rfl) (by decide) rfl
    · exact fun ac W hL he => stepOk_want rfl (op_pick (b := false) rfl (he.get 13 16 (by kernel_rfl) rfl) rfl)
    · exact fun ac W hL he => stepOk_want rfl (op_assign rfl (he.get 17 20 (by kernel_rfl) rfl))
    intro xs W hL2 hx
    have v18 : xs 18 = .bool false := hx 18 (by decide)
    simp only [putL, Nat.reduceAdd, Act.put, List.setIfInBounds_toArray, List.set_cons_succ, List.set_cons_zero]
    rw [v18]
    clear hx v18
    go_wp2_with fail
    exact HΦ.out _ _ ⟨by rw [HK.out]; simp, HL.out.step hL2⟩
  have hc3' : b3 = true := by revert hc3; cases b3 <;> simp
  clear hc3
  subst hc3'
  refine wp_region_seqL [Pr.eq (.pointer (some ⟨g, 64, none⟩)), Pr.eq (.int .i64 h.amt), Pr.eq (.bool true), Pr.eq (.bool true), Pr.eq (.pointer (some ⟨g, 64, none⟩)), Pr.eq (.int .i64 h.amt), Pr.eq (.bool true), Pr.eq (.bool true), Pr.eq (.bool true), Pr.eq (.pointer (some ⟨g, 65, none⟩)), Pr.eq (.int .i64 h.exp), Pr.eq (.bool true), Pr.eq (.bool true), Pr.eq (.bool true), Pr.eq (.pointer (some ⟨g, 65, none⟩)), Pr.eq (.int .i64 h.exp), Pr.eq (.bool b4), Pr.eq (.bool b4), Pr.eq (.bool b4)] (by kernel_rfl) (by kernel_rfl) (by kernel_rfl) ⟨?_, ?_, ?_, ?_, ?_, ?_, ?_, ?_, ?_, ?_, ?_, ?_, ?_, ?_, ?_, ?_, ?_, ?_, ?_, trivial⟩ ?_
  · exact fun ac W hL he => stepOk_want rfl (op_fieldAddr rfl (he.keep (.tmp 1) (by kernel_rfl)) fHop2 rfl)
  · exact fun ac W hL he => stepOk_want rfl (op_load rfl (he.get 0 3 (by kernel_rfl) rfl) (ldI64 (Later.cell hL hc2)) rfl)
  · exact fun ac W hL he => stepOk_want rfl (op_binOp rfl (he.get 1 4 (by kernel_rfl) rfl) rfl (eqg_any rfl) (cmpG hb1) rfl)
  · exact fun ac W hL he => stepOk_want rfl (op_move rfl (he.get 2 5 (by kernel_rfl) rfl))
  · exact fun ac W hL he => stepOk_yes (j := 3) (t := 6) (b := true) rfl rfl (he.get 3 6 (by kernel_rfl) rfl) (op_fieldAddr rfl (he.keep (.tmp 1) (by kernel_rfl)) fHop2 rfl)
  · exact fun ac W hL he => stepOk_yes (j := 3) (t := 6) (b := true) rfl rfl (he.get 3 6 (by kernel_rfl) rfl) (op_load rfl (he.get 4 7 (by kernel_rfl) rfl) (ldI64 (Later.cell hL hc2)) rfl)
  · intro ac W hL he; refine stepOk_yes (j := 3) (t := 6) (b := true) rfl rfl (he.get 3 6 (by kernel_rfl) rfl) ?_; have e0 : ac.eval (.tmp 8) = .int .i64 h.amt := (he.get 5 8 (by kernel_rfl) rfl); exact op_callF (vs := #[.int .i64 h.amt]) rfl (by simp only [List.map_toArray, List.map_cons, List.map_nil, e0]) (enters_of Tryz.func50 (by kernel_rfl) rfl) (((h2 W)).mono fun e W' ⟨he', hw'⟩ => ⟨_, he', hw' ▸ Later.refl _, rfl⟩)
  · exact fun ac W hL he => stepOk_want rfl (op_pick (b := true) rfl (he.get 3 6 (by kernel_rfl) rfl) (he.get 6 9 (by kernel_rfl) rfl))
  · exact fun ac W hL he => stepOk_want rfl (op_move rfl (he.get 7 10 (by kernel_rfl) rfl))
  · exact fun ac W hL he => stepOk_yes (j := 8) (t := 11) (b := true) rfl rfl (he.get 8 11 (by kernel_rfl) rfl) (op_fieldAddr rfl (he.keep (.tmp 1) (by kernel_rfl)) fHop3 rfl)
  · exact fun ac W hL he => stepOk_yes (j := 8) (t := 11) (b := true) rfl rfl (he.get 8 11 (by kernel_rfl) rfl) (op_load rfl (he.get 9 12 (by kernel_rfl) rfl) (ldI64 (Later.cell hL hc3)) rfl)
  · exact fun ac W hL he => stepOk_yes (j := 8) (t := 11) (b := true) rfl rfl (he.get 8 11 (by kernel_rfl) rfl) (op_binOp rfl (he.get 10 13 (by kernel_rfl) rfl) rfl (eqg_any rfl) (cmpGe hb3) rfl)
  · exact fun ac W hL he => stepOk_want rfl (op_pick (b := true) rfl (he.get 8 11 (by kernel_rfl) rfl) (he.get 11 14 (by kernel_rfl) rfl))
  · exact fun ac W hL he => stepOk_want rfl (op_move rfl (he.get 12 15 (by kernel_rfl) rfl))
  · exact fun ac W hL he => stepOk_yes (j := 13) (t := 16) (b := true) rfl rfl (he.get 13 16 (by kernel_rfl) rfl) (op_fieldAddr rfl (he.keep (.tmp 1) (by kernel_rfl)) fHop3 rfl)
  · exact fun ac W hL he => stepOk_yes (j := 13) (t := 16) (b := true) rfl rfl (he.get 13 16 (by kernel_rfl) rfl) (op_load rfl (he.get 14 17 (by kernel_rfl) rfl) (ldI64 (Later.cell hL hc3)) rfl)
  · exact fun ac W hL he => stepOk_yes (j := 13) (t := 16) (b := true) rfl rfl (he.get 13 16 (by kernel_rfl) rfl) (op_binOp rfl (he.get 15 18 (by kernel_rfl) rfl) rfl (eqg_any rfl) (cmpLe hb4) rfl)
  · exact fun ac W hL he => stepOk_want rfl (op_pick (b := true) rfl (he.get 13 16 (by kernel_rfl) rfl) (he.get 16 19 (by kernel_rfl) rfl))
  · exact fun ac W hL he => stepOk_want rfl (op_assign rfl (he.get 17 20 (by kernel_rfl) rfl))
  intro xs W hL2 hx
  have v18 : xs 18 = .bool b4 := hx 18 (by decide)
  simp only [putL, Nat.reduceAdd, Act.put, List.setIfInBounds_toArray, List.set_cons_succ, List.set_cons_zero]
  rw [v18]
  clear hx v18
  go_wp2_with fail
  exact HΦ.out _ _ ⟨by rw [HK.out]; simp, HL.out.step hL2⟩
section
variable {w W : World} {q9 q10 : Nat} {T9 : TypeId} {A0 : Option Addr} {b : List UInt8} {s : List UInt8 × Bool} {h : Hop}
end
theorem neqBools (a b : Bool) (w : World) : (binOp .neq 4 (.bool a) (.bool b)).run Tryz.prog w = .ok (.bool (!(a == b))) w := by
  cases a <;> cases b <;> kernel_rfl
end Go.Proofs.YtloiaaolnfimgaaGreat
namespace Go.Proofs.YtloiaaolnfimgaaGreat
open Go.RowKit Rt
theorem eqgHashR (b : BinOp) (x y : Operand) (xs ys : Array Value) (w : World) : (eqGuard b 25 x y (.agg xs) (.agg ys)).run Tryz.prog w = .ok () w := run_eqGuard_agg w b _ x y xs ys (by kernel_rfl)
end Go.Proofs.YtloiaaolnfimgaaGreat
namespace Go.Proofs.YtloiaaolnfimgaaGreat
open Go.RowKit Rt
structure GB (w : World) (base g : Nat) (T0 : TypeId) (cs : Array Value) (W : World) : Prop where
  low : Below base w W
  src : Row W g T0 cs
  sz : base ≤ W.heap.size
  lt : g < base
theorem GB.later {w W W' : World} {base g : Nat} {T0 : TypeId} {cs : Array Value} (h : GB w base g T0 cs W) (hL : Later W W') : GB w base g T0 cs W' := ⟨h.low.trans (hL.below.mono h.sz), h.src.later hL, Nat.le_trans h.sz hL.size, h.lt⟩
theorem GB.put {w W W' : World} {base g : Nat} {T0 : TypeId} {cs : Array Value} {v : Value} {l : List UInt8} (h : GB w base g T0 cs W) (hown : Own 5 W base v l) (hg : W.grownBy W' v.ownBlock) : GB w base g T0 cs W' :=
  have hb : Below base W W' := (Below.refl base _).grown hg h.sz (fun q e => (hown.at_ q e).1)
  ⟨h.low.trans hb, h.src.below hb h.lt, Nat.le_trans h.sz hb.size, h.lt⟩
def NApp (w : World) (base g : Nat) (T0 : TypeId) (cs : Array Value) (v0 : Value) (l0 p1 p2 : List UInt8) : List Value → World → Prop
  | [], W => GB w base g T0 cs W ∧ Own 5 W base v0 l0
  | [n1], W => GB w base g T0 cs W ∧ Own 5 W base v0 l0 ∧ ∃ A c, n1 = .slice A p1.length c ∧ Rd W A p1
  | [_, v1], W => GB w base g T0 cs W ∧ Own 5 W base v1 (l0 ++ p1)
  | [_, v1, n2], W => GB w base g T0 cs W ∧ Own 5 W base v1 (l0 ++ p1) ∧ ∃ A c, n2 = .slice A p2.length c ∧ Rd W A p2
  | [_, _, _, v2], W => GB w base g T0 cs W ∧ Own 5 W base v2 (l0 ++ p1 ++ p2)
  | _, _ => False
section
variable {w W W' : World} {base g : Nat} {T0 : TypeId} {cs : Array Value} {v0 : Value} {l0 p1 p2 : List UInt8} {rs : List Value}
theorem NApp.later (h : NApp w base g T0 cs v0 l0 p1 p2 rs W) (hL : Later W W') : NApp w base g T0 cs v0 l0 p1 p2 rs W' := by
  rcases rs with _ | ⟨a, _ | ⟨b, _ | ⟨c, _ | ⟨d, _ | ⟨e, rs⟩⟩⟩⟩⟩
  · exact ⟨h.1.later hL, h.2.later hL⟩
  · obtain ⟨h1, h2, A, c, h3, h4⟩ := h
    exact ⟨h1.later hL, h2.later hL, A, c, h3, h4.later hL⟩
  · exact ⟨h.1.later hL, h.2.later hL⟩
  · obtain ⟨h1, h2, A, c, h3, h4⟩ := h
    exact ⟨h1.later hL, h2.later hL, A, c, h3, h4.later hL⟩
  · exact ⟨h.1.later hL, h.2.later hL⟩
  · exact h
theorem NApp.gb (h : NApp w base g T0 cs v0 l0 p1 p2 rs W) : GB w base g T0 cs W := by
  rcases rs with _ | ⟨a, _ | ⟨b, _ | ⟨c, _ | ⟨d, _ | ⟨e, rs⟩⟩⟩⟩⟩
  · exact h.1
  · exact h.1
  · exact h.1
  · exact h.1
  · exact h.1
  · exact h.elim
theorem len1 {rs : List Value} (h : rs.length = 1) : ∃ a, rs = [a] := List.length_eq_one_iff.1 h
theorem len2 {rs : List Value} (h : rs.length = 2) : ∃ a b, rs = [a, b] := by
  rcases rs with _ | ⟨a, _ | ⟨b, _ | ⟨c, rs⟩⟩⟩ <;> simp at h
  exact ⟨a, b, rfl⟩
theorem len3 {rs : List Value} (h : rs.length = 3) : ∃ a b c, rs = [a, b, c] := by
  rcases rs with _ | ⟨a, _ | ⟨b, _ | ⟨c, _ | ⟨d, rs⟩⟩⟩⟩ <;> simp at h
  exact ⟨a, b, c, rfl⟩
theorem NApp.num0 (h : NApp w base g T0 cs v0 l0 p1 p2 rs W) (hlen : rs.length = 0) {v : Value} (ho : Own 5 W' W.heap.size v p1) (hL : Later W W') : NApp w base g T0 cs v0 l0 p1 p2 (rs ++ [v]) W' := by
  obtain rfl := List.eq_nil_of_length_eq_zero hlen
  obtain ⟨A, c, h1, _, _, h2⟩ := ho.slice
  exact ⟨h.1.later hL, h.2.later hL, A, c, h1, h2⟩
theorem NApp.num2 (h : NApp w base g T0 cs v0 l0 p1 p2 rs W) (hlen : rs.length = 2) {v : Value} (ho : Own 5 W' W.heap.size v p2) (hL : Later W W') : NApp w base g T0 cs v0 l0 p1 p2 (rs ++ [v]) W' := by
  obtain ⟨a, b, rfl⟩ := len2 hlen
  obtain ⟨A, c, h1, _, _, h2⟩ := ho.slice
  exact ⟨h.1.later hL, h.2.later hL, A, c, h1, h2⟩
theorem NApp.at1 (h : NApp w base g T0 cs v0 l0 p1 p2 rs W) (hlen : rs.length = 1) : ∃ n1 A c, rs = [n1] ∧ GB w base g T0 cs W ∧ Own 5 W base v0 l0 ∧ n1 = .slice A p1.length c ∧ Rd W A p1 := by
  obtain ⟨a, rfl⟩ := len1 hlen
  obtain ⟨h1, h2, A, c, h3, h4⟩ := h
  exact ⟨a, A, c, rfl, h1, h2, h3, h4⟩
theorem NApp.at3 (h : NApp w base g T0 cs v0 l0 p1 p2 rs W) (hlen : rs.length = 3) : ∃ n0 v1 n1 A c, rs = [n0, v1, n1] ∧ GB w base g T0 cs W ∧ Own 5 W base v1 (l0 ++ p1) ∧ n1 = .slice A p2.length c ∧ Rd W A p2 := by
  obtain ⟨a, b, d, rfl⟩ := len3 hlen
  obtain ⟨h1, h2, A, c, h3, h4⟩ := h
  exact ⟨a, b, d, A, c, rfl, h1, h2, h3, h4⟩
theorem NApp.put1 (h : NApp w base g T0 cs v0 l0 p1 p2 rs W) (hlen : rs.length = 1) {v u : Value} {k : List UInt8} (ho : Own 5 W' base v (l0 ++ p1)) (hgb : GB w base g T0 cs W) (hg : W.grownBy W' u.ownBlock) (hown : Own 5 W base u k) : NApp w base g T0 cs v0 l0 p1 p2 (rs ++ [v]) W' := by
  obtain ⟨a, rfl⟩ := len1 hlen
  exact ⟨hgb.put hown hg, ho⟩
theorem NApp.put3 (h : NApp w base g T0 cs v0 l0 p1 p2 rs W) (hlen : rs.length = 3) {v u : Value} {k : List UInt8} (ho : Own 5 W' base v (l0 ++ p1 ++ p2)) (hgb : GB w base g T0 cs W) (hg : W.grownBy W' u.ownBlock) (hown : Own 5 W base u k) : NApp w base g T0 cs v0 l0 p1 p2 (rs ++ [v]) W' := by
  obtain ⟨a, b, c, rfl⟩ := len3 hlen
  exact ⟨hgb.put hown hg, ho⟩
theorem NApp.fin {a b c d : Value} (h : NApp w base g T0 cs v0 l0 p1 p2 [a, b, c, d] W) : GB w base g T0 cs W ∧ Own 5 W base d (l0 ++ p1 ++ p2) := h
end
theorem sliceHashO {g o : Nat} (W : World) : (Instr.sliceAt 25 (.pointer (some ⟨g, o, none⟩)) none none none).run Tryz.prog W = .ok (.slice (some ⟨g, o, none⟩) 32 32) W := by
  obtain ⟨i, hi0, hz, hs, hb⟩ := info_parts info5
  simp [Instr.sliceAt, run_underlying Tryz.underlying25, sizeOf, typeInfo, hi0, hs, go_sem]
theorem rd_key {w : World} {g : Nat} {t : TypeId} {h : Hop} (hw : h.wf) (hr : Row w g t (hopC h)) : Rd w (some ⟨g, 0, none⟩) h.key := fun _ =>
  ⟨g, 0, rfl, fun i hi => by
    have hi32 : i < 32 := by have := hw.1; omega
    rw [Nat.zero_add]
    exact (hr.cell i).trans ((hopC_key hw i hi32).trans (hC_get h.key i hi (Nat.le_of_eq hw.1)))⟩
theorem rd_next {w : World} {g : Nat} {t : TypeId} {h : Hop} (hw : h.wf) (hr : Row w g t (hopC h)) : Rd w (some ⟨g, 32, none⟩) h.next := fun _ =>
  ⟨g, 32, rfl, fun i hi => by
    have hi32 : i < 32 := by have := hw.2; omega
    exact (hr.cell (32 + i)).trans ((hopC_next hw i hi32).trans (hC_get h.next i hi (Nat.le_of_eq hw.2)))⟩
theorem own_void2 {W : World} {base : Nat} (hb : base ≤ W.heap.size) : Own 5 (W.alloc (.cells #[] 5)) base (.slice (some ⟨W.heap.size, 0, none⟩) 0 0) [] :=
  ⟨rfl, .inr ⟨W.heap.size, 0, #[], rfl, hb, heap_alloc_new W _, Nat.le_refl _, by decide, rfl, rfl⟩⟩
section
variable {w W W' : World} {base g : Nat} {T0 : TypeId} {cs : Array Value} {p1 p2 : List UInt8} {rs : List Value}
end
end Go.Proofs.YtloiaaolnfimgaaGreat
namespace Go.Proofs.YtloiaaolnfimgaaGreat
open Go.RowKit
namespace Rt
def body (h : Hop) (rest : List UInt8) : List UInt8 := h.next ++ Wr.nums [h.amt, h.exp] ++ (Wr.bytes rest.length ++ rest)
def sealedL (h : Hop) (rest : List UInt8) : List UInt8 := Hm.tag h.key (body h rest) ++ mask h.key (Hm.tag h.key (body h rest)) (body h rest)
theorem body_len {h : Hop} (hw : h.wf) (rest : List UInt8) : (body h rest).length ≤ rest.length + 60 := by
  have h1 := Wr.nums_len [h.amt, h.exp]
  have h2 := Wr.bytes_le rest.length
  unfold body
  simp only [List.length_append, hw.2]
  simp at h1
  omega
theorem sealedL_len {h : Hop} (hw : h.wf) (rest : List UInt8) : (sealedL h rest).length ≤ rest.length + 92 := by
  have h1 := body_len hw rest
  unfold sealedL
  rw [List.length_append, Hm.tag_len, mask_len]
  omega
end Rt
open Rt
theorem fRt0 {g o : Nat} {W : World} : (Instr.fieldAt 68 (.pointer (some ⟨g, o, none⟩)) 0).run Tryz.prog W = .ok (.pointer (some ⟨g, o, none⟩)) W := by go_simp
theorem buildHs10 (f : Nat → Value) (w : World) : (Instr.buildSlice 170 1 #[(0, .agg ((List.range 32).map f).toArray)]).run Tryz.prog w = .ok (.slice (some ⟨w.heap.size, 0, none⟩) 1 1) (w.alloc (.cells ((List.range 32).map f).toArray 25)) := by kernel_rfl
theorem buildHs1 {a : List UInt8} (ha : a.length = 32) (w : World) : (Instr.buildSlice 170 1 #[(0, .agg (hC a))]).run Tryz.prog w = .ok (.slice (some ⟨w.heap.size, 0, none⟩) 1 1) (w.alloc (.cells (hC a) 25)) := by
  have h1 := arr_range (hC a) 32 (hC_size a (by omega))
  rw [h1]
  exact buildHs10 _ w
theorem rdH_one {a : List UInt8} (ha : a.length = 32) (w : World) : RdH (w.alloc (.cells (hC a) 25)) (some ⟨w.heap.size, 0, none⟩) [a] := fun _ => by
  have hr := Row.new w 25 (hC a)
  refine ⟨_, _, rfl, fun i hi j v hj => ?_⟩
  obtain rfl : i = 0 := by simp at hi; omega
  refine (hr.cell _).trans ?_
  rw [show 0 + 0 * 32 + j = j by omega]
  simpa using hj
set_option maxRecDepth 100000 in
set_option maxHeartbeats 4000000 in
theorem sealed_any (h : Hop) (hw : h.wf) (hok : paid h.amt h.exp = true) (rest : List UInt8) (hrest : rest.length ≤ 1000) (w : World) : Calls Tryz.prog 26 #[.agg (hopC h), .string ⟨rest.toArray⟩] w fun e w' => e = .returned (.string ⟨(sealedL h rest).toArray⟩) ∧ Below w.heap.size w w' := by
  refine Calls.post fun Φ HΦ => ?_
  have hbx := boxHopR hw w
  have hr := Row.new w 68 (hopC h)
  have hL : Later w (w.alloc (.cells (hopC h) 68)) := below_new w _
  have hnew := fun W => wnew_any W
  have HL := Lib.hid hL
  have HOK := Lib.hid hok
  clear hL hok
  go_enter Tryz.func26, Tryz.ntmps26
  go_upto_region 2 with (first
    | (guard_target =~ wpList _ _ _ (_ :: _) _ _; refine wpList_box rfl 68 (.tmp 0) rfl (.agg (hopC h)) rfl hbx ?_)
    | (go_at_call 54; refine (hnew _).mono ?_; rintro e w3 ⟨rfl, hw3, hL3, hlt3⟩)
    | fail)
  obtain ⟨g0, hg0⟩ : ∃ g, g = w.heap.size := ⟨_, rfl⟩
  obtain ⟨gw, hgw⟩ : ∃ g, g = (w.alloc (.cells (hopC h) 68)).heap.size := ⟨_, rfl⟩
  try simp only [World.size_alloc] at hw3 hlt3 hgw ⊢
  rw [← hgw] at hw3 ⊢
  rw [← hg0] at hr ⊢
  have hr3 := hr.later hL3
  have HL3 : Hid (Later w w3) := Lib.hid (HL.out.step hL3)
  have hgg : g0 ≠ gw := by omega
  have hgw0 : w.heap.size ≤ gw := by omega
  have hn3 := loadNextR hw hr3
  have hbs := buildHs1 hw.2 w3
  have L4 : Later w3 (w3.alloc (.cells (hC h.next) 25)) := below_new w3 _
  have hrd4 := rdH_one hw.2 w3
  have hw4 := hw3.later L4
  have hlt3' := hw3.lt.1
  have hcH := wHash_any gw none [] (some ⟨w3.heap.size, 0, none⟩) 1 1 [h.next] _ rfl (by decide) (fun x hx => by simp at hx; rw [hx]; exact hw.2) (by simp) hrd4 (fun b o e _ => by injection e with e; injection e with e1 e2; subst e1; exact ⟨by omega, by simp⟩) hw4
  clear hw3 hrd4 hw4 hg0 hgw hlt3 hL3 hr
  go_upto_region 3 with (first
    | (guard_target =~ wpList _ _ _ (_ :: _) _ _; refine wpList_field rfl 68 (.tmp 2) 0 rfl (.pointer (some ⟨g0, 0, none⟩)) rfl fRt0 ?_)
    | (guard_target =~ wpList _ _ _ (_ :: _) _ _; refine wpList_field rfl 27 (.tmp 9) 1 rfl (.pointer (some ⟨g0, 0, none⟩)) rfl fHop1 ?_)
    | (guard_target =~ wpList _ _ _ (_ :: _) _ _; refine wpList_load rfl 25 (.tmp 10) rfl (.pointer (some ⟨g0, 32, none⟩)) rfl hn3 ?_)
    | (guard_target =~ wpList _ _ _ (_ :: _) _ _; refine wpList_buildSl rfl 170 1 #[(0, .tmp 11)] rfl #[(0, .agg (hC h.next))] (by simp only [List.map_toArray, List.map_cons, List.map_nil]; rfl) hbs ?_; simp only [Act.put, List.setIfInBounds_toArray, List.set_cons_zero, List.set_cons_succ])
    | (go_at_call 55; refine hcH.mono ?_; clear hcH; rintro e w5 ⟨rfl, r5, hw5, hwr5⟩)
    | fail)
  have hr4 := hr3.later L4
  have hr5 := hr4.same hwr5.1 ⟨hr4.lt, hgg, by simp⟩
  have c64 := cHop2 hw hr5
  have c65 := cHop3 hw hr5
  have hl5 := hw5.lt
  have L6 : Later w5 (w5.alloc (.cells #[.int .i64 h.amt, .int .i64 h.exp] 2)) := below_new w5 _
  have hbi := buildI2 h.amt h.exp w5
  have hwg : [h.amt, h.exp].any Wr.wrong = false := by
    have := HOK.out
    unfold paid at this
    simp only [Bool.and_eq_true, decide_eq_true_eq] at this
    simp [Wr.wrong]
    omega
  have hl32 : ([] ++ [h.next].flatten).length = 32 := by simp [hw.2]
  have hcN := wNumber_any gw r5 _ (some ⟨w5.heap.size, 0, none⟩) 2 2 [h.amt, h.exp] _ rfl (by decide) (by rw [hl32]; decide) (rdI_two h.amt h.exp w5) (fun b o e _ => by injection e with e; injection e with e1 e2; subst e1; exact ⟨by have := hl5.1; omega, fun e3 => by have := hl5.2 _ e3.symm; omega⟩) (hw5.later L6)
  rw [hwg] at hcN
  clear hn3 hbs
  go_upto_region 4 with (first
    | (guard_target =~ wpList _ _ _ (_ :: _) _ _; refine wpList_field rfl 68 (.tmp 2) 0 rfl (.pointer (some ⟨g0, 0, none⟩)) rfl fRt0 ?_)
    | (guard_target =~ wpList _ _ _ (_ :: _) _ _; refine wpList_field rfl 27 (.tmp 15) 2 rfl (.pointer (some ⟨g0, 0, none⟩)) rfl fHop2 ?_)
    | (guard_target =~ wpList _ _ _ (_ :: _) _ _; refine wpList_field rfl 27 (.tmp 18) 3 rfl (.pointer (some ⟨g0, 0, none⟩)) rfl fHop3 ?_)
    | (guard_target =~ wpList _ _ _ (_ :: _) _ _; refine wpList_buildSl rfl 101 2 #[(0, .tmp 17), (1, .tmp 20)] rfl #[(0, .int .i64 h.amt), (1, .int .i64 h.exp)] (by simp only [List.map_toArray, List.map_cons, List.map_nil]; rfl) hbi ?_; simp only [Act.put, List.setIfInBounds_toArray, List.set_cons_zero, List.set_cons_succ])
    | (go_at_call 56; refine hcN.mono ?_; clear hcN; rintro e w7 h7; obtain ⟨-, rfl, r7, hw7, hwr7⟩ := h7.resolve_left (fun h => Bool.noConfusion h.1))
    | fail)
  have hr7 : Row w7 g0 68 (hopC h) := by
    have h6 := hr5.later L6
    exact h6.same hwr7.1 ⟨h6.lt, hgg, fun e => (hwr5.2 _ e.symm).elim (fun h => nomatch h) (fun h => by have := hr4.lt; omega)⟩
  have hnl := Wr.nums_len [h.amt, h.exp]
  have hl7 : ([] ++ [h.next].flatten ++ Wr.nums [h.amt, h.exp]).length ≤ 100 := by
    rw [List.length_append, hl32]
    simp at hnl ⊢
    omega
  have hcT := wText_any gw r7 _ rest w7 (by omega) (by omega) hw7
  have hraw : ([] ++ [h.next].flatten ++ Wr.nums [h.amt, h.exp] ++ (Wr.bytes rest.length ++ rest)) = body h rest := by simp [body]
  rw [hraw] at hcT
  have H7w : Hid (∀ k, r7 = some k → w.heap.size ≤ k ∧ k ≠ g0) := Lib.hid fun k e => by
    have h5 : ∀ k, r5 = some k → w.heap.size ≤ k ∧ k ≠ g0 := fun k e => (hwr5.2 _ e).elim (fun h => nomatch h) (fun h => by have := HL3.out.size; have := L4.size; have := hr3.lt; exact ⟨by omega, by omega⟩)
    exact (hwr7.2 _ e).elim (fun h => h5 k h) (fun h => by have := HL3.out.size; have := L4.size; have := hwr5.1.size; have := L6.size; have := hr5.lt; exact ⟨by omega, by omega⟩)
  have hS7 : Below w.heap.size w w7 := by
    have s3 := Same.of_below HL3.out.below
    have s5 : Same (fun k => k < w.heap.size) w3 w5 := (Same.of_below L4.below |>.mono fun k hk => Nat.lt_of_lt_of_le hk HL3.out.size).trans (hwr5.1.mono fun k hk => ⟨by have := HL3.out.size; have := L4.size; omega, by omega, fun e => by cases e⟩)
    have s7 : Same (fun k => k < w.heap.size) w5 w7 := (Same.of_below L6.below |>.mono fun k hk => by have := HL3.out.size; have := s5.size; omega).trans (hwr7.1.mono fun k hk => ⟨by have := HL3.out.size; have := s5.size; have := L6.size; omega, by omega, fun e => (hwr5.2 _ e.symm).elim (fun h => nomatch h) (fun h => by have := HL3.out.size; have := L4.size; omega)⟩)
    exact (s3.trans (s5.trans s7)).below
  clear hr4 hr5 c64 c65 hl5 hbi hnl hl7 hl32 hwg hr3 L6
  go_upto_region 5 with (first
    | (go_at_call 72; refine hcT.mono ?_; clear hcT; rintro e w8 h8; obtain ⟨-, rfl, r8, hw8, hwr8⟩ := h8.resolve_left (fun h => by omega))
    | fail)
  have hr8 : Row w8 g0 68 (hopC h) := hr7.same hwr8.1 ⟨hr7.lt, hgg, fun e => (H7w.out _ e.symm).2 rfl⟩
  have hS8 : Below w.heap.size w w8 := by
    have s8 : Same (fun k => k < w.heap.size) w7 w8 := hwr8.1.mono fun k hk => ⟨by have := hS7.size; omega, by omega, fun e => by have := (H7w.out _ e.symm).1; omega⟩
    exact ((Same.of_below hS7).trans s8).below
  have hbl := body_len hw rest
  have hbl2 : (body h rest).length ≤ 1100 := by omega
  obtain ⟨B, hB⟩ : ∃ b, body h rest = b := ⟨_, rfl⟩
  obtain ⟨nb, hnb⟩ : ∃ n, B.length = n := ⟨_, rfl⟩
  obtain ⟨T, hT⟩ : ∃ t, Hm.tag h.key B = t := ⟨_, rfl⟩
  have hTl : T.length = 32 := by rw [← hT]; exact Hm.tag_len _ _
  have HBL : Hid (sealedL h rest = T ++ mask h.key T B) := Lib.hid (by unfold sealedL; rw [hB, hT])
  have HML : Hid ((mask h.key T B).length = nb) := Lib.hid (by rw [mask_len, hnb])
  rw [hB] at hw8 hbl2
  clear hB hraw hbl
  have hall : ∀ W, Later w8 W → Calls Tryz.prog 58 #[.pointer (some ⟨gw, 0, none⟩)] W fun e w' => ∃ v, e = .returned v ∧ Own 5 w' W.heap.size v B ∧ Later W w' := fun W hL => wall_any gw r8 B W (by omega) (hw8.later hL)
  have hrdk := rd_key hw hr8
  have htag : ∀ W', Later w8 W' → ∀ g, RdsC W' (some ⟨g, 0, none⟩) [B] → Calls Tryz.prog 73 #[.slice (some ⟨g0, 0, none⟩) 32 32, .slice (some ⟨g, 0, none⟩) 1 1] W' fun e w' => e = .returned (.agg (hC T)) ∧ Below W'.heap.size W' w' := fun W' hL g hr => by
    have h1 := hmTag_any (some ⟨g0, 0, none⟩) 32 32 h.key (some ⟨g, 0, none⟩) 1 1 [B] W' hw.1 (by decide) (by decide) (by decide) (hrdk.later hL) rfl (by decide) (by simp; omega) hr
    rw [show [B].flatten = B by simp, hT] at h1
    exact h1
  have HN := Lib.hid hnb
  have HT := Lib.hid hTl
  have HS8 := Lib.hid hS8
  have HBB := Lib.hid hbl2
  clear hnb hTl hT hS8 hS7 hr7 hw7 hwr7 hwr5 hw5 HL HL3 H7w hwr8 hbl2 hrest hlt3' hgg hgw0 hbx HOK
  rename_i K hK
  have HK := Lib.hid hK
  clear hK
  refine (wpIn_wide (n := 0)).1 ?_
  refine wpIn_region_last wide_wide [Pr.eq (.pointer (some ⟨g0, 0, none⟩)), Pr.eq (.pointer (some ⟨g0, 0, none⟩)), Pr.eq (.slice (some ⟨g0, 0, none⟩) 32 32), Pr.eq (.pointer (some ⟨gw, 0, none⟩)), Pr.slM nb B, Pr.rowsC 1 [B], Pr.eq (.agg (hC T)), Pr.newT w8.heap.size 25 (fun cs => cs = hC [])] (by kernel_rfl) (by kernel_rfl) (by kernel_rfl) (by kernel_rfl) (by kernel_rfl) (by kernel_rfl) rfl ⟨?_, ?_, ?_, ?_, ?_, ?_, ?_, ?_, trivial⟩ ?_
  · exact fun ac W hL he => stepOk_want rfl (op_fieldAddr rfl (he.keep (.tmp 2) (by kernel_rfl)) fRt0 rfl)
  · exact fun ac W hL he => stepOk_want rfl (op_fieldAddr rfl (he.get 0 26 (by kernel_rfl) rfl) fHop0 rfl)
  · exact fun ac W hL he => stepOk_want rfl (op_slice (W' := W) rfl (he.get 1 27 (by kernel_rfl) rfl) (rfl : _ = none) (rfl : _ = none) rfl (sliceHash W) rfl)
  · exact fun ac W hL he => stepOk_want rfl (op_move rfl (he.keep (.tmp 5) (by kernel_rfl)))
  · intro ac W hL he; refine stepOk_want rfl ?_; have e0 : ac.eval (.tmp 29) = .pointer (some ⟨gw, 0, none⟩) := he.get 3 29 (by kernel_rfl) rfl; exact op_callF (vs := #[.pointer (some ⟨gw, 0, none⟩)]) rfl (by simp only [List.map_toArray, List.map_cons, List.map_nil, e0]) (enters_of Tryz.func58 (by kernel_rfl) rfl) ((hall W hL).mono fun e W' ⟨v, he', ho, hb⟩ => ⟨_, he', hb, by obtain ⟨S, c, e5, h5, h5m, h6⟩ := ho.slice; rw [HN.out] at e5 h5; exact ⟨S, c, e5, h5, h5m, h6⟩⟩)
  · intro ac W hL he; refine stepOk_want rfl ?_; obtain ⟨S, cS, e0, h1, h2, h3⟩ : (Pr.slM nb B).R (ac.eval (.tmp 30)) W := he.get 4 30 (by kernel_rfl) rfl; exact op_buildSlice (vs := #[(0, .slice S nb cS)]) rfl (by simp only [List.map_toArray, List.map_cons, List.map_nil, e0]) (build1Sg W S nb cS) (below_new W _) ⟨_, rfl, RdsC.one 60 rfl h3 HN.out h1 h2⟩
  · intro ac W hL he; refine stepOk_want rfl ?_; have e0 : ac.eval (.tmp 28) = .slice (some ⟨g0, 0, none⟩) 32 32 := he.get 2 28 (by kernel_rfl) rfl; obtain ⟨gR, e2, hRR⟩ : (Pr.rowsC 1 [B]).R (ac.eval (.tmp 31)) W := he.get 5 31 (by kernel_rfl) rfl; exact op_callF (vs := #[.slice (some ⟨g0, 0, none⟩) 32 32, .slice (some ⟨gR, 0, none⟩) 1 1]) rfl (by simp only [List.map_toArray, List.map_cons, List.map_nil, e0, e2]) (enters_of Tryz.func73 (by kernel_rfl) rfl) ((htag W hL gR hRR).mono fun e W' ⟨he', hb⟩ => ⟨_, he', hb, rfl⟩)
  · exact fun ac W hL he => stepOk_want rfl (op_alloc rfl (allocH W) (below_new W _) ⟨W.heap.size, _, rfl, hL.size, rfl, Row.new W _ _⟩)
  intro xs W hL hx hk hgt
  obtain ⟨gT, cs, v7, hgT, rfl, hrT⟩ : (Pr.newT w8.heap.size 25 (fun cs => cs = hC [])).R (xs 7) W := hx 7 (by decide)
  have v6 : xs 6 = .agg (hC T) := hx 6 (by decide)
  obtain ⟨W9, hst, hrT9, hgr9⟩ := storeH (b := T) (by simp) (Nat.le_of_eq HT.out) hrT
  refine last_store rfl rfl ((hgt 7 6 (by decide) (by kernel_rfl)).trans v7) ((hgt 6 32 (by decide) (by kernel_rfl)).trans v6) hst ?_
  have hL9 : Later w8 W9 := Below.grown hL hgr9 hL.size (fun j e => by cases e; exact hgT)
  simp only [initL, lastL, putL, Nat.reduceAdd, Act.put, List.setIfInBounds_toArray, List.set_cons_succ, List.set_cons_zero]
  rw [v7]
  have hr9 := hr8.later hL9
  have hw9 := hw8.later hL9
  have hS9 : Hid (Below w.heap.size w W9) := Lib.hid (HS8.out.trans (hL9.below.mono HS8.out.size))
  clear hx hk hgt v7 v6 hst hgr9 hrT hL hall htag hrdk hr8 hw8 hL9 HS8
  refine HK.out _ _ ?_
  have hrt := rd_hash HT.out hrT9
  have hky := loadKeyR hw hr9
  have hkyL : ∀ W, Later W9 W → (Instr.loadAt 25 (.pointer (some ⟨g0, 0, none⟩))).run Tryz.prog W = .ok (.agg (hC h.key)) W := fun W hL => loadKeyR hw (hr9.later hL)
  have hall : ∀ W, Later W9 W → Calls Tryz.prog 58 #[.pointer (some ⟨gw, 0, none⟩)] W fun e w' => ∃ v, e = .returned v ∧ Own 5 w' W.heap.size v B ∧ Later W w' := fun W hL => wall_any gw r8 B W (by have := HBB.out; omega) (hw9.later hL)
  obtain ⟨M, hM⟩ : ∃ m, mask h.key T B = m := ⟨_, rfl⟩
  have hmask : ∀ W S c, Rd W S B → Calls Tryz.prog 33 #[.agg (hC h.key), .agg (hC T), .slice S nb c] W fun e w' => ∃ v, e = .returned v ∧ Own 5 w' W.heap.size v M ∧ Below W.heap.size W w' := fun W S c hr => by
    rw [← hM]
    exact masked_any h.key T S nb c B W hw.1 HT.out HN.out (by have := HN.out; have := HBB.out; omega) hr
  rw [hM] at HML HBL
  have hadd := fun W => run_str_add T M (by rw [HT.out, HML.out]; have := HN.out; have := HBB.out; omega) W
  clear hM hky
  go_upto_region 6 with fail
  refine wp_region_list [Pr.eq (.slice (some ⟨gT, 0, none⟩) 32 32), Pr.eq (.string ⟨T.toArray⟩), Pr.eq (.pointer (some ⟨g0, 0, none⟩)), Pr.eq (.pointer (some ⟨g0, 0, none⟩)), Pr.eq (.agg (hC h.key)), Pr.eq (.agg (hC T)), Pr.eq (.pointer (some ⟨gw, 0, none⟩)), Pr.slM nb B, Pr.slM nb M, Pr.eq (.string ⟨M.toArray⟩), Pr.eq (.string ⟨(T ++ M).toArray⟩), Pr.eq (.string ⟨(T ++ M).toArray⟩)] (by kernel_rfl) (by kernel_rfl) (by kernel_rfl) (by kernel_rfl) ⟨?_, ?_, ?_, ?_, ?_, ?_, ?_, ?_, ?_, ?_, ?_, ?_, trivial⟩ ?_
  · exact fun ac W hL he => stepOk_want rfl (op_slice (W' := W) rfl (he.keep (.tmp 6) (by kernel_rfl)) (rfl : _ = none) (rfl : _ = none) rfl (sliceHash W) rfl)
  · exact fun ac W hL he => stepOk_want rfl (op_convert rfl (he.get 0 33 (by kernel_rfl) rfl) (run_string_rd W 60 9 5 _ 32 32 T Tryz.underlying60 Tryz.underlying5 Tryz.underlying9 HT.out (hrt.later hL)) (Later.refl _) rfl)
  · exact fun ac W hL he => stepOk_want rfl (op_fieldAddr rfl (he.keep (.tmp 2) (by kernel_rfl)) fRt0 rfl)
  · exact fun ac W hL he => stepOk_want rfl (op_fieldAddr rfl (he.get 2 35 (by kernel_rfl) rfl) fHop0 rfl)
  · exact fun ac W hL he => stepOk_want rfl (op_load rfl (he.get 3 36 (by kernel_rfl) rfl) (hkyL W hL) rfl)
  · exact fun ac W hL he => stepOk_want rfl (op_load rfl (he.keep (.tmp 6) (by kernel_rfl)) (loadH HT.out (hrT9.later hL)) rfl)
  · exact fun ac W hL he => stepOk_want rfl (op_move rfl (he.keep (.tmp 5) (by kernel_rfl)))
  · intro ac W hL he; refine stepOk_want rfl ?_; have e0 : ac.eval (.tmp 39) = .pointer (some ⟨gw, 0, none⟩) := he.get 6 39 (by kernel_rfl) rfl; exact op_callF (vs := #[.pointer (some ⟨gw, 0, none⟩)]) rfl (by simp only [List.map_toArray, List.map_cons, List.map_nil, e0]) (enters_of Tryz.func58 (by kernel_rfl) rfl) ((hall W hL).mono fun e W' ⟨v, he', ho, hb⟩ => ⟨_, he', hb, by obtain ⟨S, c, e5, h5, h5m, h6⟩ := ho.slice; rw [HN.out] at e5 h5; exact ⟨S, c, e5, h5, h5m, h6⟩⟩)
  · intro ac W hL he; refine stepOk_want rfl ?_; have e0 : ac.eval (.tmp 37) = .agg (hC h.key) := he.get 4 37 (by kernel_rfl) rfl; have e1 : ac.eval (.tmp 38) = .agg (hC T) := he.get 5 38 (by kernel_rfl) rfl; obtain ⟨S, cS, e2, h1, h2, h3⟩ : (Pr.slM nb B).R (ac.eval (.tmp 40)) W := he.get 7 40 (by kernel_rfl) rfl; exact op_callF (vs := #[.agg (hC h.key), .agg (hC T), .slice S nb cS]) rfl (by simp only [List.map_toArray, List.map_cons, List.map_nil, e0, e1, e2]) (enters_of Tryz.func33 (by kernel_rfl) rfl) ((hmask W S cS h3).mono fun e W' ⟨v, he', ho, hb⟩ => ⟨_, he', hb, by obtain ⟨S2, c2, e5, h5, h5m, h6⟩ := ho.slice; rw [HML.out] at e5 h5; exact ⟨S2, c2, e5, h5, h5m, h6⟩⟩)
  · intro ac W hL he; refine stepOk_want rfl ?_; obtain ⟨S, cS, e0, h1, h2, h3⟩ : (Pr.slM nb M).R (ac.eval (.tmp 41)) W := he.get 8 41 (by kernel_rfl) rfl; exact op_convert rfl e0 (run_string_rd W 60 9 5 _ nb cS M Tryz.underlying60 Tryz.underlying5 Tryz.underlying9 HML.out h3) (Later.refl _) rfl
  · exact fun ac W hL he => stepOk_want rfl (op_binOp rfl (he.get 1 34 (by kernel_rfl) rfl) (he.get 9 42 (by kernel_rfl) rfl) (eqg_any rfl) (hadd W) rfl)
  · exact fun ac W hL he => stepOk_want rfl (op_assign rfl (he.get 10 43 (by kernel_rfl) rfl))
  intro xs W hL hx
  have v11 : xs 11 = .string ⟨(T ++ M).toArray⟩ := hx 11 (by decide)
  simp only [putL, Nat.reduceAdd, Act.put, List.setIfInBounds_toArray, List.set_cons_succ, List.set_cons_zero]
  rw [v11]
  clear hx v11 hadd hmask hall hkyL hrt
  have hEND : Hid (Below w.heap.size w W) := Lib.hid (hS9.out.trans (hL.below.mono hS9.out.size))
  clear hL
  go_wp2_with fail
  exact HΦ.out _ _ ⟨by rw [HBL.out]; rfl, hEND.out⟩
end Go.Proofs.YtloiaaolnfimgaaGreat
namespace Go.Proofs.YtloiaaolnfimgaaGreat
open Go.RowKit Rt
set_option maxRecDepth 100000 in
set_option maxHeartbeats 4000000 in
theorem refSealed_any (h : Hop) (hwf : h.wf) (hok : paid h.amt h.exp = true) (rest : List UInt8) (hrest : rest.length ≤ 1000) (w : World) : Calls Tryz.prog 29 #[.agg (hopC h), .string ⟨rest.toArray⟩] w fun e w' => e = .returned (.string ⟨(sealedL h rest).toArray⟩) ∧ Below w.heap.size w w' := by
  refine Calls.post fun Φ HΦ => ?_
  have hbx := boxHopA hwf w
  have hr := Row.new w 27 (hopC h)
  have hL : Later w (w.alloc (.cells (hopC h) 27)) := below_new w _
  have HL := Lib.hid hL
  have HOK := Lib.hid hok
  have hlt := hr.lt
  clear hL hok
  go_enter Tryz.func29, Tryz.ntmps29
  go_upto_region 1 with (first
    | (guard_target =~ wpList _ _ _ (_ :: _) _ _; refine wpList_box rfl 27 (.tmp 0) rfl (.agg (hopC h)) rfl hbx ?_)
    | fail)
  obtain ⟨g, hg⟩ : ∃ g, g = w.heap.size := ⟨_, rfl⟩
  have hsz1 : (w.alloc (.cells (hopC h) 27)).heap.size = g + 1 := by rw [hg]; simp
  rw [← hg] at hr hlt ⊢
  have HG := Lib.hid hg
  clear hbx hg
  generalize w.alloc (.cells (hopC h) 27) = w1 at *
  have hGB : GB w1 (g + 1) g 27 (hopC h) (w1.alloc (.cells #[] 5)) := ⟨(Below.refl _ _).alloc (by omega) _, hr.alloc _, by simp only [World.size_alloc]; omega, Nat.lt_succ_self g⟩
  have hown1 : Own 5 (w1.alloc (.cells #[] 5)) (g + 1) (.slice (some ⟨w1.heap.size, 0, none⟩) 0 0) [] := own_void2 (by omega)
  have hle1 : g + 1 ≤ (w1.alloc (.cells #[] 5)).heap.size := by simp only [World.size_alloc]; omega
  have HSZ := Lib.hid hsz1
  clear hsz1
  have hrn := rd_next hwf (hr.alloc (.cells #[] 5))
  go_upto_region 2 with (first
    | (guard_target =~ wpList _ _ _ (_ :: _) _ _; refine wpList_field rfl 27 (.tmp 2) 1 rfl (.pointer (some ⟨g, 0, none⟩)) rfl fHop1 ?_)
    | (guard_target =~ wpList _ _ _ (_ :: _) _ _; refine wpList_slice0 rfl 25 (.tmp 8) rfl (.pointer (some ⟨g, 32, none⟩)) rfl (sliceHashO _) ?_)
    | (at_builtin; refine wpList_append_bytes rfl (.tmp 7) (.tmp 9) 60 rfl (g + 1) 5 Tryz.underlying60 byteInfo _ [] rfl hown1 (some ⟨g, 32, none⟩) 32 32 h.next rfl hwf.2 hrn (by decide) hle1 ?_; intro v0 W3 hown3 hg3 hat3)
    | fail)
  have hGB3 := hGB.put hown1 hg3
  obtain ⟨l0, hl00⟩ : ∃ l, [] ++ h.next = l := ⟨_, rfl⟩
  have hl0 : l0.length = 32 := by rw [← hl00]; simp [hwf.2]
  rw [hl00] at hown3
  have HL0 := Lib.hid hl00
  clear hl00 hGB hown1 hrn hg3 hr hlt
  have hoi := HOK.out
  unfold paid at hoi
  simp only [Bool.and_eq_true, decide_eq_true_eq] at hoi
  have hna : ∀ W, Calls Tryz.prog 63 #[.int .i64 h.amt] W fun e w' => ∃ v', e = .returned v' ∧ Own 5 w' W.heap.size v' (Wr.nb h.amt) ∧ Later W w' := fun W => by
    have h1 := refNumber_any h.amt.toNat W (by omega)
    rwa [← Wr.nb_nat, Int.toNat_of_nonneg (by omega)] at h1
  have hnx : ∀ W, Calls Tryz.prog 63 #[.int .i64 h.exp] W fun e w' => ∃ v', e = .returned v' ∧ Own 5 w' W.heap.size v' (Wr.nb h.exp) ∧ Later W w' := fun W => by
    have h1 := refNumber_any h.exp.toNat W (by omega)
    rwa [← Wr.nb_nat, Int.toNat_of_nonneg (by omega)] at h1
  clear hoi
  try simp only [initL, lastL, putL, Nat.reduceAdd, Act.put, List.setIfInBounds_toArray, List.set_cons_succ, List.set_cons_zero]
  rename_i K hK
  have HK := Lib.hid hK
  clear hK
  refine (wpIn_wide (n := 0)).1 ?_
  refine wpIn_region_cv wide_wide [v0, .pointer (some ⟨g, 64, none⟩), .int .i64 h.amt, undef, undef, .pointer (some ⟨g, 65, none⟩), .int .i64 h.exp, undef, undef] [3, 4, 7, 8] (NApp w1 (g + 1) g 27 (hopC h) v0 l0 (Wr.nb h.amt) (Wr.nb h.exp)) (fun rs W W' hL h => NApp.later h hL) ⟨hGB3, hown3⟩ (by kernel_rfl) (by kernel_rfl) (by kernel_rfl) (by kernel_rfl) (by kernel_rfl) (by kernel_rfl) rfl (by decide) (by kernel_rfl) ⟨?_, ?_, ?_, ?_, ?_, ?_, ?_, ?_, ?_, trivial⟩ ?_
  · exact cvStep_val (by decide) (fun ac W rs he hA => stepOk_want rfl (op_move rfl (he.keep (.tmp 5) (by kernel_rfl))))
  · exact cvStep_val (by decide) (fun ac W rs he hA => stepOk_want rfl (op_fieldAddr rfl (he.keep (.tmp 2) (by kernel_rfl)) fHop2 rfl))
  · exact cvStep_val (by decide) (fun ac W rs he hA => stepOk_want rfl (op_load rfl (show ac.eval (.tmp 12) = .pointer (some ⟨g, 64, none⟩) from he.val 1 12 (by kernel_rfl) rfl (by decide)) (ldI64 (cHop2 hwf (NApp.gb hA).src)) rfl))
  · refine cvStep_put (k := 0) (by decide) (.inl rfl) (fun ac W rs hlen he hA => ⟨rfl, ?_⟩)
    have e1 : ac.eval (.tmp 13) = .int .i64 h.amt := he.val 2 13 (by kernel_rfl) rfl (by decide)
    refine op_callFK (vs := #[.int .i64 h.amt]) rfl (by simp only [List.map_toArray, List.map_cons, List.map_nil, e1]) (enters_of Tryz.func63 (by kernel_rfl) rfl) ((hna W).mono fun e W' ⟨v, he', ho, hL⟩ => ⟨v, he', v, rfl, ?_⟩)
    exact NApp.num0 hA hlen ho hL
  · refine cvStep_put (k := 1) (by decide) (.inr (by kernel_rfl)) (fun ac W rs hlen he hA => ⟨rfl, ?_⟩)
    obtain ⟨n1, A1, c1, hrs, hgb, hown, hn1, hrd⟩ := NApp.at1 hA hlen
    have e0 : ac.eval (.tmp 11) = v0 := he.val 0 11 (by kernel_rfl) rfl (by decide)
    have e1 : ac.eval (.tmp 14) = .slice A1 _ c1 := (he.res 0 14 (by decide) (by kernel_rfl) rfl).trans (by rw [hrs]; exact hn1)
    exact op_append_bytes _ _ 60 rfl (g + 1) 5 Tryz.underlying60 byteInfo _ _ e0 hown A1 _ c1 _ e1 rfl hrd (by have := Wr.nb_le h.amt; omega) hgb.sz (fun v' w' ho hg _ => ⟨v', rfl, NApp.put1 hA hlen ho hgb hg hown⟩)
  · exact cvStep_val (by decide) (fun ac W rs he hA => stepOk_want rfl (op_fieldAddr rfl (he.keep (.tmp 2) (by kernel_rfl)) fHop3 rfl))
  · exact cvStep_val (by decide) (fun ac W rs he hA => stepOk_want rfl (op_load rfl (show ac.eval (.tmp 16) = .pointer (some ⟨g, 65, none⟩) from he.val 5 16 (by kernel_rfl) rfl (by decide)) (ldI64 (cHop3 hwf (NApp.gb hA).src)) rfl))
  · refine cvStep_put (k := 2) (by decide) (.inr (by kernel_rfl)) (fun ac W rs hlen he hA => ⟨rfl, ?_⟩)
    have e1 : ac.eval (.tmp 17) = .int .i64 h.exp := he.val 6 17 (by kernel_rfl) rfl (by decide)
    refine op_callFK (vs := #[.int .i64 h.exp]) rfl (by simp only [List.map_toArray, List.map_cons, List.map_nil, e1]) (enters_of Tryz.func63 (by kernel_rfl) rfl) ((hnx W).mono fun e W' ⟨v, he', ho, hL⟩ => ⟨v, he', v, rfl, ?_⟩)
    exact NApp.num2 hA hlen ho hL
  · refine cvStep_put (k := 3) (by decide) (.inr (by kernel_rfl)) (fun ac W rs hlen he hA => ⟨rfl, ?_⟩)
    obtain ⟨n0, v1, n1, A1, c1, hrs, hgb, hown, hn1, hrd⟩ := NApp.at3 hA hlen
    have e0 : ac.eval (.tmp 15) = v1 := (he.res 1 15 (by decide) (by kernel_rfl) rfl).trans (by rw [hrs]; rfl)
    have e1 : ac.eval (.tmp 18) = .slice A1 _ c1 := (he.res 2 18 (by decide) (by kernel_rfl) rfl).trans (by rw [hrs]; exact hn1)
    exact op_append_bytes _ _ 60 rfl (g + 1) 5 Tryz.underlying60 byteInfo _ _ e0 hown A1 _ c1 _ e1 rfl hrd (by have := Wr.nb_le h.amt; have := Wr.nb_le h.exp; rw [List.length_append]; omega) hgb.sz (fun v' w' ho hg _ => ⟨v', rfl, NApp.put3 hA hlen ho hgb hg hown⟩)
  intro xs W hA hx hk2 hgt
  obtain ⟨hgb4, hown4⟩ := NApp.fin hA
  refine last_assign rfl (hgt 8 19 (by decide) (by kernel_rfl)) ?_
  clear hx hk2 hgt hA
  simp only [initL, lastL, putL, Nat.reduceAdd, Act.put, List.setIfInBounds_toArray, List.set_cons_succ, List.set_cons_zero]
  have hraw : l0 ++ Wr.nb h.amt ++ Wr.nb h.exp = h.next ++ Wr.nums [h.amt, h.exp] := by rw [← HL0.out]; simp [Wr.nums]
  rw [hraw] at hown4
  obtain ⟨v5, hv5⟩ : ∃ v, xs 8 = v := ⟨_, rfl⟩
  rw [hv5] at hown4 ⊢
  clear hv5 hraw hGB3 hown3 hna hnx
  refine HK.out _ _ ?_
  clear HK
  have htx := refText_any rest W (by omega)
  obtain ⟨l1, hl1⟩ : ∃ l, h.next ++ Wr.nums [h.amt, h.exp] = l := ⟨_, rfl⟩
  obtain ⟨l2, hl2⟩ : ∃ l, Wr.bytes rest.length ++ rest = l := ⟨_, rfl⟩
  have hbl := body_len hwf rest
  have hbd : body h rest = l1 ++ l2 := by rw [← hl1, ← hl2]; rfl
  have hle1 : l1.length + l2.length ≤ 1100 := by rw [hbd, List.length_append] at hbl; omega
  obtain ⟨m2, hm2⟩ : ∃ n, l2.length = n := ⟨_, rfl⟩
  rw [hl1] at hown4
  rw [hl2] at htx
  have HBD := Lib.hid hbd
  have HM2 := Lib.hid hm2
  have HLE := Lib.hid hle1
  have hsz5 := hgb4.sz
  clear hl1 hl2 hbl hbd hm2 hle1
  go_upto_region 4 with (first
    | (go_at_call 75; refine htx.mono ?_; clear htx; rintro e w6 ⟨v6, rfl, hown6, hL6⟩; obtain ⟨A6, c6, rfl, -, -, hrd6⟩ := hown6.slice; rw [HM2.out])
    | (at_builtin; refine wpList_append_bytes rfl (.tmp 20) (.tmp 22) 60 rfl (g + 1) 5 Tryz.underlying60 byteInfo v5 l1 rfl (hown4.later hL6) A6 m2 c6 l2 rfl HM2.out hrd6 (by have := HLE.out; have := HM2.out; omega) (Nat.le_trans hsz5 hL6.size) ?_; intro v7 w7 hown7 hg7 hat7)
    | fail)
  have hgb7 := (hgb4.later hL6).put (hown4.later hL6) hg7
  obtain ⟨B, hB⟩ : ∃ b, l1 ++ l2 = b := ⟨_, rfl⟩
  rw [hB] at hown7
  have hbd := HBD.out
  rw [hB] at hbd
  obtain ⟨nb, hnb⟩ : ∃ n, B.length = n := ⟨_, rfl⟩
  have hnbl : nb ≤ 1100 := by have := HLE.out; rw [← hnb, ← hB, List.length_append]; omega
  obtain ⟨S, cS, e7, hSc, hScm, hrS⟩ := hown7.slice
  rw [hnb] at e7 hSc
  subst e7
  obtain ⟨T, hT⟩ : ∃ t, Hm.tag h.key B = t := ⟨_, rfl⟩
  have hTl : T.length = 32 := by rw [← hT]; exact Hm.tag_len _ _
  obtain ⟨M, hM⟩ : ∃ m, mask h.key T B = m := ⟨_, rfl⟩
  have hMl : M.length = nb := by rw [← hM, mask_len, hnb]
  have HBL : Hid (sealedL h rest = T ++ M) := Lib.hid (by unfold sealedL; rw [hbd, hT, hM])
  have hrk := rd_key hwf hgb7.src
  have htg : Calls Tryz.prog 44 #[.slice (some ⟨g, 0, none⟩) 32 32, .slice S nb cS] w7 fun e w' => e = .returned (.agg (hC T)) ∧ Below w7.heap.size w7 w' := by
    rw [← hT]
    exact refTag_any _ 32 32 h.key S nb cS B w7 hwf.1 hnb (by decide) (by omega) (by decide) (by decide) hrk hrS
  have hmask : ∀ W, Later w7 W → Calls Tryz.prog 40 #[.agg (hC h.key), .agg (hC T), .slice S nb cS] W fun e w' => ∃ v, e = .returned v ∧ Own 5 w' W.heap.size v M ∧ Below W.heap.size W w' := fun W hL => by
    rw [← hM]
    exact refXored_any h.key T S nb cS B W hwf.1 hTl hnb (by omega) (hrS.later hL)
  have hadd := fun W => run_str_add T M (by rw [hTl, hMl]; omega) W
  have hg7b := hgb7.low
  have hs7 := hgb7.sz
  have hr7 := hgb7.src
  have HT := Lib.hid hTl
  have HML := Lib.hid hMl
  have HN := Lib.hid hnb
  have HB7 : Hid (Below w.heap.size w w7) := Lib.hid (by
    have h1 := HL.out
    have hg := HG.out
    exact h1.below.trans (hg7b.mono (by omega)))
  clear hgb4 hown4 hgb7 hown7 hg7 hat7 hown6 hrd6 hL6 HM2 HLE hB hbd HBD hnb hTl hMl hT hM hrk hrS hg7b hs7 hsz5 hSc hScm HSZ HL0
  rename_i K hK
  have HK := Lib.hid hK
  clear hK
  go_upto_region 5 with (first
    | (guard_target =~ wpList _ _ _ (_ :: _) _ _; refine wpList_field rfl 27 (.tmp 2) 0 rfl (.pointer (some ⟨g, 0, none⟩)) rfl fHop0 ?_)
    | (guard_target =~ wpList _ _ _ (_ :: _) _ _; refine wpList_slice0 rfl 25 (.tmp 24) rfl (.pointer (some ⟨g, 0, none⟩)) rfl (sliceHashO _) ?_)
    | (go_at_call 44; refine htg.mono ?_; clear htg; rintro e w8 ⟨rfl, hb8⟩; obtain ⟨w9, hst9, hr9, hgr9⟩ := storeH (b := T) (by simp) (Nat.le_of_eq HT.out) (Row.new w8 25 (hC [])))
    | (with_reducible refine wpList_alloc rfl 25 rfl (allocH _) ?_)
    | (guard_target =~ wpList _ _ _ (_ :: _) _ _; refine wpList_store rfl 25 (.tmp 6) (.tmp 27) rfl (.pointer (some ⟨w8.heap.size, 0, none⟩)) (.agg (hC T)) rfl rfl hst9 ?_)
    | fail)
  obtain ⟨gT, hgT⟩ : ∃ g, g = w8.heap.size := ⟨_, rfl⟩
  rw [← hgT] at hr9 hgr9 ⊢
  have hL9 : Later w7 w9 := Below.grown (Later.alloc hb8 (.cells (hC []) 25)) hgr9 (by have := hb8.size; simp only [World.size_alloc]; omega) (fun j e => by cases e; rw [hgT]; exact hb8.size)
  have hrt := rd_hash HT.out hr9
  have hm9 : ∀ W, Later w9 W → Calls Tryz.prog 40 #[.agg (hC h.key), .agg (hC T), .slice S nb cS] W fun e w' => ∃ v, e = .returned v ∧ Own 5 w' W.heap.size v M ∧ Below W.heap.size W w' := fun W hL => hmask W (hL9.step hL)
  have hkyL : ∀ W, Later w9 W → (Instr.loadAt 25 (.pointer (some ⟨g, 0, none⟩))).run Tryz.prog W = .ok (.agg (hC h.key)) W := fun W hL => loadKeyR hwf ((hr7.later hL9).later hL)
  have HB9 : Hid (Below w.heap.size w w9) := Lib.hid (HB7.out.trans (hL9.below.mono HB7.out.size))
  clear hmask hr7 hL9 hgr9 hst9 hb8 HB7 hgT
  refine HK.out _ _ ?_
  clear HK
  go_upto_region 5 with fail
  refine wp_region_list [Pr.eq (.slice (some ⟨gT, 0, none⟩) 32 32), Pr.eq (.string ⟨T.toArray⟩), Pr.eq (.pointer (some ⟨g, 0, none⟩)), Pr.eq (.agg (hC h.key)), Pr.eq (.agg (hC T)), Pr.eq (.slice S nb cS), Pr.slM nb M, Pr.eq (.string ⟨M.toArray⟩), Pr.eq (.string ⟨(T ++ M).toArray⟩), Pr.eq (.string ⟨(T ++ M).toArray⟩)] (by kernel_rfl) (by kernel_rfl) (by kernel_rfl) (by kernel_rfl) ⟨?_, ?_, ?_, ?_, ?_, ?_, ?_, ?_, ?_, ?_, trivial⟩ ?_
  · exact fun ac W hL he => stepOk_want rfl (op_slice (W' := W) rfl (he.keep (.tmp 6) (by kernel_rfl)) (rfl : _ = none) (rfl : _ = none) rfl (sliceHash W) rfl)
  · exact fun ac W hL he => stepOk_want rfl (op_convert rfl (he.get 0 28 (by kernel_rfl) rfl) (run_string_rd W 60 9 5 _ 32 32 T Tryz.underlying60 Tryz.underlying5 Tryz.underlying9 HT.out (hrt.later hL)) (Later.refl _) rfl)
  · exact fun ac W hL he => stepOk_want rfl (op_fieldAddr rfl (he.keep (.tmp 2) (by kernel_rfl)) fHop0 rfl)
  · exact fun ac W hL he => stepOk_want rfl (op_load rfl (he.get 2 30 (by kernel_rfl) rfl) (hkyL W hL) rfl)
  · exact fun ac W hL he => stepOk_want rfl (op_load rfl (he.keep (.tmp 6) (by kernel_rfl)) (loadH HT.out (hr9.later hL)) rfl)
  · exact fun ac W hL he => stepOk_want rfl (op_move rfl (he.keep (.tmp 5) (by kernel_rfl)))
  · intro ac W hL he; refine stepOk_want rfl ?_; have e0 : ac.eval (.tmp 31) = .agg (hC h.key) := he.get 3 31 (by kernel_rfl) rfl; have e1 : ac.eval (.tmp 32) = .agg (hC T) := he.get 4 32 (by kernel_rfl) rfl; have e2 : ac.eval (.tmp 33) = .slice S nb cS := he.get 5 33 (by kernel_rfl) rfl; exact op_callF (vs := #[.agg (hC h.key), .agg (hC T), .slice S nb cS]) rfl (by simp only [List.map_toArray, List.map_cons, List.map_nil, e0, e1, e2]) (enters_of Tryz.func40 (by kernel_rfl) rfl) ((hm9 W hL).mono fun e W' ⟨v, he', ho, hb⟩ => ⟨_, he', hb, by obtain ⟨S2, c2, e5, h5, h5m, h6⟩ := ho.slice; rw [HML.out] at e5 h5; exact ⟨S2, c2, e5, h5, h5m, h6⟩⟩)
  · intro ac W hL he; refine stepOk_want rfl ?_; obtain ⟨S, cS, e0, h1, h2, h3⟩ : (Pr.slM nb M).R (ac.eval (.tmp 34)) W := he.get 6 34 (by kernel_rfl) rfl; exact op_convert rfl e0 (run_string_rd W 60 9 5 _ nb cS M Tryz.underlying60 Tryz.underlying5 Tryz.underlying9 HML.out h3) (Later.refl _) rfl
  · exact fun ac W hL he => stepOk_want rfl (op_binOp rfl (he.get 1 29 (by kernel_rfl) rfl) (he.get 7 35 (by kernel_rfl) rfl) (eqg_any rfl) (hadd W) rfl)
  · exact fun ac W hL he => stepOk_want rfl (op_assign rfl (he.get 8 36 (by kernel_rfl) rfl))
  intro xs W9 hL9 hx
  have v9 : xs 9 = .string ⟨(T ++ M).toArray⟩ := hx 9 (by decide)
  simp only [putL, Nat.reduceAdd, Act.put, List.setIfInBounds_toArray, List.set_cons_succ, List.set_cons_zero]
  rw [v9]
  clear hx v9 hadd hm9 hkyL hrt
  have hEND : Hid (Below w.heap.size w W9) := Lib.hid (HB9.out.trans (hL9.below.mono HB9.out.size))
  clear hL9
  go_wp2_with fail
  exact HΦ.out _ _ ⟨by rw [HBL.out]; rfl, hEND.out⟩
end Go.Proofs.YtloiaaolnfimgaaGreat
namespace Go.Proofs.YtloiaaolnfimgaaGreat
open Go.RowKit Rt
def leafOf (P : Program) : Nat → TypeId → Nat → Option TypeId
  | 0, _, _ => none
  | k + 1, t, o =>
    match P.underlying t with
    | some (.int _) => if o = 0 then some t else none
    | some .string => if o = 0 then some t else none
    | some (.array n e) => if o / P.cellsOf e < n ∧ 0 < P.cellsOf e then leafOf P k e (o % P.cellsOf e) else none
    | some (.struct fs) =>
      match (List.range fs.size).find? (fun i => match fs[i]? with | some f => decide (f.offset ≤ o) && decide (o < f.offset + P.cellsOf f.type) | none => false) with
      | some i => match fs[i]? with
        | some f => leafOf P k f.type (o - f.offset)
        | none => none
      | none => none
    | _ => none
theorem take_drop_at {α : Type} (l : List α) (a c j : Nat) (v : α) (h : ((l.drop a).take c)[j]? = some v) : l[a + j]? = some v := by
  rw [List.getElem?_take] at h
  split at h
  · rwa [List.getElem?_drop] at h
  · cases h
theorem leafOf_trod {H : Type} {enc : TypeId × Value → H} {P : Program} {w : World} {base : Nat} {sp : Nat → Bool} {held : Bool} : ∀ (k : Nat) (t : TypeId) (o : Nat) (u : TypeId) (fuel : Nat) (cs : List Value) (x : DataW H × List MemPlace),
    leafOf P k t o = some u → DataW.trod enc P w base sp held fuel t cs = some x → ∃ v, cs[o]? = some v ∧ Cell.okWide P w .any 0 u v
  | 0, _, _, _, _, _, _, h, _ => by cases h
  | k + 1, t, o, u, fuel, cs, x, h, hx => by
    unfold leafOf at h
    rcases hu : P.underlying t with _ | d
    · rw [hu] at h; cases h
    · rw [hu] at h
      cases d <;> simp only [] at h <;> try (cases h; done)
      case int kk =>
        split at h
        · rename_i ho
          cases h
          subst ho
          obtain ⟨n, rfl, -, hw⟩ := DataW.trod_int hu hx
          refine ⟨_, rfl, ?_⟩
          unfold Cell.okWide Cell.ok
          rw [hu]
          simp only [Lit.wf, Bool.and_eq_true, decide_eq_true_eq] at hw
          exact ⟨rfl, hw⟩
        · cases h
      case string =>
        split at h
        · rename_i ho
          cases h
          subst ho
          obtain ⟨s, rfl, -, hw⟩ := DataW.trod_string hu hx
          refine ⟨_, rfl, ?_⟩
          unfold Cell.okWide Cell.ok
          rw [hu]
          show (s.size : Int) ≤ 9223372036854775807
          unfold maxLen at hw
          omega
        · cases h
      case array n e =>
        split at h
        · rename_i hn
          obtain ⟨xs, m, -, -, -, hl, hf⟩ := DataW.trod_array hu hx
          have h1 := hf (o / P.cellsOf e) hn.1
          rw [List.getElem?_eq_getElem (by omega)] at h1
          obtain ⟨v, h2, h3⟩ := leafOf_trod k e _ u _ _ _ h h1
          refine ⟨v, ?_, h3⟩
          have := take_drop_at _ _ _ _ _ h2
          rwa [Nat.div_add_mod'] at this
        · cases h
      case struct fs =>
        split at h
        · rename_i i hi
          split at h
          · rename_i f hf0
            obtain ⟨xs, m, -, -, -, hl, hf⟩ := DataW.trod_struct hu hx
            have h1 := hf i f hf0
            have hin : i < fs.size := (Array.getElem?_eq_some_iff.1 hf0).1
            rw [List.getElem?_eq_getElem (by omega)] at h1
            obtain ⟨v, h2, h3⟩ := leafOf_trod k f.type _ u _ _ _ h h1
            refine ⟨v, ?_, h3⟩
            have h4 := List.find?_some hi
            rw [hf0] at h4
            simp only [Bool.and_eq_true, decide_eq_true_eq] at h4
            have := take_drop_at _ _ _ _ _ h2
            rwa [Nat.add_sub_cancel' h4.1] at this
          · cases h
        · cases h
section
variable {P : Program} {w : World} {r : Reach} {b : Nat} {t : TypeId} {v : Value}
theorem cellW_int {k : IntKind} (ht : P.underlying t = some (.int k)) (h : Cell.okWide P w r b t v) : ∃ n, v = .int k n ∧ k.has n := by
  unfold Cell.okWide Cell.ok at h
  rw [ht] at h
  cases v <;> simp_all
end
def rByV : Value → UInt8
  | .int _ n => UInt8.ofNat n.toNat
  | _ => 0
def rIntV : Value → Int
  | .int _ n => n
  | _ => 0
end Go.Proofs.YtloiaaolnfimgaaGreat
namespace Go.Proofs.YtloiaaolnfimgaaGreat
open Go.RowKit Rt
set_option maxRecDepth 100000 in
theorem hop_cells {w : World} {r : Reach} {b : Nat} {cs : Array Value} (hsz : cs.size = 66) (hcell : ∀ i, i < 66 → Cell.okWide Tryz.prog w r b (if i < 64 then 5 else 2) (cs.getD i undef)) : ∃ e : Hop, e.wf ∧ hopC e = cs := by
  have hget : ∀ i, i < 66 → cs[i]? = some (cs.getD i undef) := fun i hi => by
    rw [Array.getElem?_eq_getElem (by omega)]
    simp [Array.getD, hsz, hi]
  have hby : ∀ i, i < 64 → cs.getD i undef = byteV (rByV (cs.getD i undef)) := fun i hi => by
    have h2 := hcell i (by omega)
    rw [if_pos hi] at h2
    obtain ⟨n, e, hn⟩ := cellW_int Tryz.underlying5 h2
    rw [e]
    simp [IntKind.has, IntKind.min, IntKind.max, IntKind.signed, IntKind.bits] at hn
    unfold byteV rByV
    rw [UInt8.toNat_ofNat']
    congr 1
    omega
  have hin : ∀ i, 64 ≤ i → i < 66 → cs.getD i undef = .int .i64 (rIntV (cs.getD i undef)) := fun i h1 hi => by
    have h2 := hcell i hi
    rw [if_neg (by omega)] at h2
    obtain ⟨n, e, hn⟩ := cellW_int Tryz.underlying2 h2
    rw [e]
    rfl
  have h1 : ((List.range 32).map fun i => rByV (cs.getD i undef)).length = 32 := by simp
  have h2 : ((List.range 32).map fun i => rByV (cs.getD (32 + i) undef)).length = 32 := by simp
  obtain ⟨ed, hed⟩ : ∃ ed : Hop, ed = ⟨(List.range 32).map fun i => rByV (cs.getD i undef), (List.range 32).map fun i => rByV (cs.getD (32 + i) undef), rIntV (cs.getD 64 undef), rIntV (cs.getD 65 undef)⟩ := ⟨_, rfl⟩
  have hw : ed.wf := by subst hed; exact ⟨h1, h2⟩
  refine ⟨ed, hw, ?_⟩
  apply Array.ext_getElem?
  intro i
  by_cases hi : i < 32
  · rw [hopC_key hw i hi, hC_full _ hw.1, hget i (by omega), hed]
    simp only [List.getElem?_toArray, List.getElem?_map, List.getElem?_range hi, Option.map_some]
    rw [← hby i (by omega)]
  · by_cases hi2 : i < 64
    · obtain ⟨k, rfl⟩ : ∃ k, i = 32 + k := ⟨i - 32, by omega⟩
      have hk : k < 32 := by omega
      rw [hopC_next hw k hk, hC_full _ hw.2, hget (32 + k) (by omega), hed]
      simp only [List.getElem?_toArray, List.getElem?_map, List.getElem?_range hk, Option.map_some]
      rw [← hby (32 + k) (by omega)]
    · by_cases hi3 : i < 66
      · have n1 := hopC_amt hw
        have n2 := hopC_exp hw
        have : i = 64 ∨ i = 65 := by omega
        rcases this with rfl | rfl
        · rw [n1, hget 64 (by omega), hin 64 (by omega) (by omega), hed]
        · rw [n2, hget 65 (by omega), hin 65 (by omega) (by omega), hed]
      · rw [Array.getElem?_eq_none (by rw [hopC_size hw]; omega), Array.getElem?_eq_none (by omega)]
def hopT : List TypeId := List.replicate 64 5 ++ List.replicate 2 2
set_option maxRecDepth 100000 in
theorem hop_leaves : ((List.range 66).map fun i => leafOf Tryz.prog 6 27 i) = hopT.map some := by kernel_rfl
theorem hop_leaf (i : Nat) (hi : i < 66) : leafOf Tryz.prog 6 27 i = some (if i < 64 then 5 else 2) := by
  have h := congrArg (fun l => l[i]?) hop_leaves
  simp only [List.getElem?_map, List.getElem?_range hi, Option.map_some, hopT] at h
  by_cases h1 : i < 64
  · rw [if_pos h1]
    rw [List.getElem?_append_left (by simpa using h1), List.getElem?_replicate, if_pos h1] at h
    simpa using h
  · rw [if_neg h1]
    rw [List.getElem?_append_right (by simpa using h1), List.getElem?_replicate, if_pos (by simp; omega)] at h
    simpa using h
structure InHops (w : World) (A : Option Addr) (n c : Nat) (l : List Hop) : Prop where
  len : l.length = n
  cap : n ≤ c
  most : c ≤ maxLen
  wf : ∀ e ∈ l, e.wf
  rd : Recs 66 w A (l.map hopL)
set_option maxRecDepth 100000 in
theorem in_hops {H : Type} {enc : TypeId × Value → H} {w : World} {held : Bool} {fuel len cap : Nat} {A : Option Addr} {x : DataW H × List MemPlace}
    (h : DataW.trod enc Tryz.prog w 0 (fun _ => true) held fuel 22 [.slice A len cap] = some x) : ∃ l, InHops w A len cap l := by
  rcases Deep.open_slice Tryz.underlying22 h with ⟨hcs, _⟩ | ⟨ad, l, c, m, n, D, Pl, hcs, _, hl, hm, hmm, _, hx⟩
  · injection hcs with h1
    injection h1 with h1 h2 h3
    subst h1 h2 h3
    exact ⟨[], rfl, Nat.le_refl _, Nat.zero_le _, by simp, Recs.nil _ _ _⟩
  · injection hcs with h1
    injection h1 with h1 h2 h3
    subst h1 h2 h3
    have hmc : m = cap := by rw [hmm]; rfl
    have ce : Tryz.prog.cellsOf 27 = 66 := by kernel_rfl
    have each : ∀ i, ∃ t : Hop, i < len → t.wf ∧ ∀ j, j < 66 → w.cell? ((ad.add (i * 66)).add j) = (hopC t)[j]? := fun i => by
      by_cases hi : i < len
      · obtain ⟨cs', h1, h2⟩ := hx i (by omega)
        rw [ce] at h1
        obtain ⟨_, hlen, hcell⟩ := World.cells?_some h1
        obtain ⟨t, ht, e⟩ := hop_cells (w := w) (r := .any) (b := 0) (cs := cs'.toArray) (by simpa using hlen) (fun j hj => by
          obtain ⟨v, h5, h6⟩ := leafOf_trod 6 _ j _ _ _ _ (hop_leaf j hj) h2
          have : cs'.toArray.getD j undef = v := by
            obtain ⟨hj5, e5⟩ := List.getElem?_eq_some_iff.1 h5
            simp [Array.getD, hj5, e5]
          rw [this]
          exact h6)
        refine ⟨t, fun _ => ⟨ht, fun j hj => ?_⟩⟩
        rw [e, List.getElem?_toArray]
        exact hcell j (by omega)
      · exact ⟨noHop, fun h => absurd h hi⟩
    obtain ⟨f, hf⟩ := Classical.axiomOfChoice each
    refine ⟨(List.range len).map f, by simp, hl, hm, ?_, fun hne => ?_⟩
    · intro t ht
      obtain ⟨i, hi, rfl⟩ := List.mem_map.1 ht
      exact (hf i (List.mem_range.1 hi)).1
    · have h0 : 0 < len := by
        rcases Nat.eq_zero_or_pos len with e | e
        · subst e; exact absurd rfl hne
        · exact e
      obtain ⟨b, o, rfl⟩ : ∃ b o, ad = ⟨b, o, none⟩ := by
        have h1 := (hf 0 h0).2 0 (by omega)
        rw [Array.getElem?_eq_getElem (by rw [hopC_size (hf 0 h0).1]; omega)] at h1
        exact ⟨_, _, addr_none (by simpa [Addr.add] using h1)⟩
      refine ⟨b, o, rfl, fun i hi j v hj => ?_⟩
      have hi' : i < len := by simpa using hi
      obtain ⟨h1, h2⟩ := hf i hi'
      simp only [List.getElem_map, List.getElem_range] at hj
      have hj3 : j < 66 := by
        have := (List.getElem?_eq_some_iff.1 hj).1
        rwa [hopL_len h1] at this
      rw [Array.getElem?_toList] at hj
      have h3 := h2 j hj3
      rw [addr_add, addr_add] at h3
      exact h3.trans hj
end Go.Proofs.YtloiaaolnfimgaaGreat
namespace Go.Proofs.YtloiaaolnfimgaaGreat
open Go.RowKit Rt
namespace Rt
def hopFit (l : List Hop) (i : Nat) : Bool := paid (l.getD i noHop).amt (l.getD i noHop).exp && (((l.getD i noHop).next == zh) == decide (i + 1 = l.length))
def okHops (l : List Hop) : Bool := (List.range l.length).all (hopFit l)
def wrapL : List Hop → List UInt8
  | [] => []
  | h :: t => sealedL h (wrapL t)
def wrap (l : List Hop) : List UInt8 × Int :=
  if okHops l && (decide (1 ≤ l.length) && decide (l.length ≤ 6)) then (if 512 < (wrapL l).length then ([], 3) else (wrapL l, 0)) else ([], 2)
theorem wrapL_len : ∀ {l : List Hop}, (∀ h ∈ l, h.wf) → (wrapL l).length ≤ 92 * l.length
  | [], _ => by simp [wrapL]
  | h :: t, hw => by
    have h1 := wrapL_len (l := t) (fun x hx => hw x (List.mem_cons_of_mem _ hx))
    have h2 := sealedL_len (hw h List.mem_cons_self) (wrapL t)
    rw [List.length_cons]
    show (sealedL h (wrapL t)).length ≤ _
    omega
theorem wrap_no {l : List Hop} {k : Nat} (hk : k < l.length) (h : hopFit l k = false) : wrap l = ([], 2) := by
  have : okHops l = false := by
    unfold okHops
    rw [List.all_eq_false]
    exact ⟨k, List.mem_range.2 hk, by rw [h]; simp⟩
  unfold wrap
  rw [this]
  rfl
theorem wrap_few {l : List Hop} (h : l.length < 1 ∨ 6 < l.length) : wrap l = ([], 2) := by
  have : (decide (1 ≤ l.length) && decide (l.length ≤ 6)) = false := by
    rw [Bool.and_eq_false_iff]
    rcases h with h | h
    · exact .inl (decide_eq_false (by omega))
    · exact .inr (decide_eq_false (by omega))
  unfold wrap
  rw [this, Bool.and_false]
  rfl
theorem wrap_yes {l : List Hop} (h : ∀ i, i < l.length → hopFit l i = true) (h1 : 1 ≤ l.length) (h6 : l.length ≤ 6) : wrap l = (if 512 < (wrapL l).length then ([], 3) else (wrapL l, 0)) := by
  have : okHops l = true := by
    unfold okHops
    rw [List.all_eq_true]
    exact fun i hi => h i (List.mem_range.1 hi)
  unfold wrap
  rw [this, decide_eq_true h1, decide_eq_true h6]
  rfl
theorem hopFit_paid {l : List Hop} {i : Nat} (h : hopFit l i = true) : paid (l.getD i noHop).amt (l.getD i noHop).exp = true := by
  unfold hopFit at h
  rw [Bool.and_eq_true] at h
  exact h.1
theorem wrapL_drop {l : List Hop} {i : Nat} (h : i < l.length) : wrapL (l.drop i) = sealedL (l.getD i noHop) (wrapL (l.drop (i + 1))) := by
  rw [List.drop_eq_getElem_cons h, List.getD_eq_getElem?_getD, List.getElem?_eq_getElem h]
  rfl
end Rt
open Rt
theorem eqDec {a b : Int} {d : Bool} {W : World} (h : decide (a = b) = d) : (binOp .eql 3 (.int .i64 a) (.int .i64 b)).run Tryz.prog W = .ok (.bool d) W := by
  rw [← h]
  kernel_rfl
theorem loadNextM {w : World} {b o : Nat} {h : Hop} (hw : h.wf) (hr : w.rangeAt b o (hopL h)) : (Instr.loadAt 25 (.pointer (some ⟨b, o + 32, none⟩))).run Tryz.prog w = .ok (.agg (hC h.next)) w := by
  have hz := hC_size h.next (Nat.le_of_eq hw.2)
  have := run_loadAt_mid (P := Tryz.prog) w b (o + 32) 25 (hC h.next).toList _ (fun j v hv => by
    rw [Array.getElem?_toList] at hv
    have hj : j < 32 := by have := (Array.getElem?_eq_some_iff.1 hv).1; omega
    have h2 := hr (32 + j) v (by rw [Array.getElem?_toList, hopC_next hw j hj]; exact hv)
    rwa [← Nat.add_assoc] at h2) Tryz.underlying25 rfl (by rw [Array.length_toList, hz]; exact infoH)
  rwa [Array.toArray_toList] at this
set_option maxRecDepth 100000 in
set_option maxHeartbeats 4000000 in
theorem refWrap_any (l : List Hop) (A : Option Addr) (n c : Nat) (w : World) (hin : InHops w A n c l) (hn10 : n ≤ 10) : Calls Tryz.prog 10 #[.slice A n c] w fun e w' => e = .returned (.tuple #[.string ⟨(Rt.wrap l).1.toArray⟩, .int .i64 (Rt.wrap l).2]) ∧ Below w.heap.size w w' := by
  refine Calls.post fun Φ HΦ => ?_
  obtain ⟨hlen, hcap, hmost, hwf, hrd⟩ := hin
  have HN := Lib.hid hlen
  have HWF := Lib.hid hwf
  obtain ⟨b1, hb1⟩ : ∃ b, decide ((n : Int) < 1) = b := ⟨_, rfl⟩
  obtain ⟨b2, hb2⟩ : ∃ b, decide (6 < (n : Int)) = b := ⟨_, rfl⟩
  clear hlen hwf hmost hcap
  go_enter Tryz.func10, Tryz.ntmps10
  go_upto_region 1 with fail
  by_cases hc1 : b1 = true
  · subst hc1
    have hno : Rt.wrap l = ([], 2) := wrap_few (by rw [HN.out]; have := of_decide_eq_true hb1; omega)
    have HNO := Lib.hid hno
    clear hno
    refine wp_region_seqL [Pr.eq (.slice A n c), Pr.eq (.int .i64 (n : Int)), Pr.eq (.bool true), Pr.eq (.bool true), Pr.eq (undef), Pr.eq (undef), Pr.eq (undef), Pr.eq (.bool true)] (by kernel_rfl) (by kernel_rfl) (by kernel_rfl) ⟨?_, ?_, ?_, ?_, ?_, ?_, ?_, ?_, trivial⟩ ?_
    · exact fun ac W hL he => stepOk_want rfl (op_move rfl (he.keep (.tmp 0) (by kernel_rfl)))
    · exact fun ac W hL he => stepOk_want rfl (op_len Tryz.underlying22 rfl (he.get 0 7 (by kernel_rfl) rfl) rfl)
    · exact fun ac W hL he => stepOk_want rfl (op_binOp rfl (he.get 1 8 (by kernel_rfl) rfl) rfl (eqg_any rfl) (cmpL hb1) rfl)
    · exact fun ac W hL he => stepOk_want rfl (op_move rfl (he.get 2 9 (by kernel_rfl) rfl))
    · exact fun ac W hL he => stepOk_no rfl rfl (he.get 3 10 (by kernel_rfl) rfl) (by decide) rfl
    · exact fun ac W hL he => stepOk_no rfl rfl (he.get 3 10 (by kernel_rfl) rfl) (by decide) rfl
    · exact fun ac W hL he => stepOk_no rfl rfl (he.get 3 10 (by kernel_rfl) rfl) (by decide) rfl
    · exact fun ac W hL he => stepOk_want rfl (op_pick (b := true) rfl (he.get 3 10 (by kernel_rfl) rfl) rfl)
    intro xs W hL hx
    have v7 : xs 7 = .bool true := hx 7 (by decide)
    have HLR := Lib.hid hL.below
    simp only [putL, Nat.reduceAdd, Act.put, List.setIfInBounds_toArray, List.set_cons_succ, List.set_cons_zero]
    rw [v7]
    clear hx v7 hb1 hb2 hL
    go_wp2_with fail
    exact HΦ.out _ _ ⟨by rw [HNO.out]; rfl, HLR.out⟩
  have hc1' : b1 = false := by revert hc1; cases b1 <;> simp
  clear hc1
  subst hc1'
  by_cases hc2 : b2 = true
  · subst hc2
    have hno : Rt.wrap l = ([], 2) := wrap_few (by rw [HN.out]; have := of_decide_eq_true hb2; omega)
    have HNO := Lib.hid hno
    clear hno
    refine wp_region_seqL [Pr.eq (.slice A n c), Pr.eq (.int .i64 (n : Int)), Pr.eq (.bool false), Pr.eq (.bool false), Pr.eq (.slice A n c), Pr.eq (.int .i64 (n : Int)), Pr.eq (.bool true), Pr.eq (.bool true)] (by kernel_rfl) (by kernel_rfl) (by kernel_rfl) ⟨?_, ?_, ?_, ?_, ?_, ?_, ?_, ?_, trivial⟩ ?_
    · exact fun ac W hL he => stepOk_want rfl (op_move rfl (he.keep (.tmp 0) (by kernel_rfl)))
    · exact fun ac W hL he => stepOk_want rfl (op_len Tryz.underlying22 rfl (he.get 0 7 (by kernel_rfl) rfl) rfl)
    · exact fun ac W hL he => stepOk_want rfl (op_binOp rfl (he.get 1 8 (by kernel_rfl) rfl) rfl (eqg_any rfl) (cmpL hb1) rfl)
    · exact fun ac W hL he => stepOk_want rfl (op_move rfl (he.get 2 9 (by kernel_rfl) rfl))
    · exact fun ac W hL he => stepOk_yes (j := 3) (t := 10) (b := false) rfl rfl (he.get 3 10 (by kernel_rfl) rfl) (op_move rfl (he.keep (.tmp 0) (by kernel_rfl)))
    · exact fun ac W hL he => stepOk_yes (j := 3) (t := 10) (b := false) rfl rfl (he.get 3 10 (by kernel_rfl) rfl) (op_len Tryz.underlying22 rfl (he.get 4 11 (by kernel_rfl) rfl) rfl)
    · exact fun ac W hL he => stepOk_yes (j := 3) (t := 10) (b := false) rfl rfl (he.get 3 10 (by kernel_rfl) rfl) (op_binOp rfl (he.get 5 12 (by kernel_rfl) rfl) rfl (eqg_any rfl) (cmpG hb2) rfl)
    · exact fun ac W hL he => stepOk_want rfl (op_pick (b := false) rfl (he.get 3 10 (by kernel_rfl) rfl) (he.get 6 13 (by kernel_rfl) rfl))
    intro xs W hL hx
    have v7 : xs 7 = .bool true := hx 7 (by decide)
    have HLR := Lib.hid hL.below
    simp only [putL, Nat.reduceAdd, Act.put, List.setIfInBounds_toArray, List.set_cons_succ, List.set_cons_zero]
    rw [v7]
    clear hx v7 hb1 hb2 hL
    go_wp2_with fail
    exact HΦ.out _ _ ⟨by rw [HNO.out]; rfl, HLR.out⟩
  have hc2' : b2 = false := by revert hc2; cases b2 <;> simp
  clear hc2
  subst hc2'
  have hn1 : 1 ≤ n := by have := of_decide_eq_false hb1; omega
  have hn6 : n ≤ 6 := by have := of_decide_eq_false hb2; omega
  refine wp_region_seqL [Pr.eq (.slice A n c), Pr.eq (.int .i64 (n : Int)), Pr.eq (.bool false), Pr.eq (.bool false), Pr.eq (.slice A n c), Pr.eq (.int .i64 (n : Int)), Pr.eq (.bool false), Pr.eq (.bool false)] (by kernel_rfl) (by kernel_rfl) (by kernel_rfl) ⟨?_, ?_, ?_, ?_, ?_, ?_, ?_, ?_, trivial⟩ ?_
  · exact fun ac W hL he => stepOk_want rfl (op_move rfl (he.keep (.tmp 0) (by kernel_rfl)))
  · exact fun ac W hL he => stepOk_want rfl (op_len Tryz.underlying22 rfl (he.get 0 7 (by kernel_rfl) rfl) rfl)
  · exact fun ac W hL he => stepOk_want rfl (op_binOp rfl (he.get 1 8 (by kernel_rfl) rfl) rfl (eqg_any rfl) (cmpL hb1) rfl)
  · exact fun ac W hL he => stepOk_want rfl (op_move rfl (he.get 2 9 (by kernel_rfl) rfl))
  · exact fun ac W hL he => stepOk_yes (j := 3) (t := 10) (b := false) rfl rfl (he.get 3 10 (by kernel_rfl) rfl) (op_move rfl (he.keep (.tmp 0) (by kernel_rfl)))
  · exact fun ac W hL he => stepOk_yes (j := 3) (t := 10) (b := false) rfl rfl (he.get 3 10 (by kernel_rfl) rfl) (op_len Tryz.underlying22 rfl (he.get 4 11 (by kernel_rfl) rfl) rfl)
  · exact fun ac W hL he => stepOk_yes (j := 3) (t := 10) (b := false) rfl rfl (he.get 3 10 (by kernel_rfl) rfl) (op_binOp rfl (he.get 5 12 (by kernel_rfl) rfl) rfl (eqg_any rfl) (cmpG hb2) rfl)
  · exact fun ac W hL he => stepOk_want rfl (op_pick (b := false) rfl (he.get 3 10 (by kernel_rfl) rfl) (he.get 6 13 (by kernel_rfl) rfl))
  intro xs W hL hx
  have v7 : xs 7 = .bool false := hx 7 (by decide)
  have L0 : Later w W := hL
  have hA1 := hrd.later hL
  simp only [putL, Nat.reduceAdd, Act.put, List.setIfInBounds_toArray, List.set_cons_succ, List.set_cons_zero]
  rw [v7]
  clear hx v7 hb1 hb2 hL hrd
  go_wp2_with fail
  go_loopw [4] (fun t wr => ∃ k : Nat, k ≤ n ∧ t = .int .i64 k ∧ (∀ i, i < k → hopFit l i = true) ∧ Later W wr) (fun t _ => n - (intOf t).toNat)
  case atStart => exact ⟨0, by omega, rfl, fun i h => by omega, Later.refl _⟩
  case round =>
    obtain ⟨k, hk, rfl, hoks, hL⟩ := hrel
    by_cases hlt : k < n
    · have hd : decide ((k : Int) < (n : Int)) = true := decide_eq_true (by omega)
      have hd' : decide (k < n) = true := decide_eq_true hlt
      have hkl : k < l.length := by rw [HN.out]; exact hlt
      obtain ⟨b, o, rfl, hcell⟩ := (hA1.later hL).at_ (k := k) (by simpa using hkl)
      rw [List.getElem_map] at hcell
      have hew := HWF.out _ (List.getElem_mem hkl)
      have hge : l.getD k noHop = l[k] := getD_lt hkl
      obtain ⟨ed, hed⟩ : ∃ e, l[k] = e := ⟨_, rfl⟩
      rw [hed] at hcell hew hge
      have hix := fun W => idxHop (b := b) (o := o) (n := n) (c := c) (i := k) W hlt
      have hph := fun W => refhop_any ed hew W
      obtain ⟨p1, hp1⟩ : ∃ x, paid ed.amt ed.exp = x := ⟨_, rfl⟩
      obtain ⟨nx, hnx⟩ : ∃ x, (ed.next == zh) = x := ⟨_, rfl⟩
      have hqe := fun W => eqlHash ed.next zh hew.2 zh_len W
      have hat : hopFit l k = (p1 && (nx == decide (k + 1 = n))) := by unfold hopFit; rw [hge, hp1, hnx, HN.out]
      simp only [hp1] at hph
      rw [hnx] at hqe
      have HAT := Lib.hid hat
      have HOKS := Lib.hid hoks
      have HL := Lib.hid (L0.step hL)
      have HLW := Lib.hid hL
      clear hat hoks hge hed hp1 hnx
      have hcl : ∀ W', Later wr W' → W'.rangeAt b (o + k * 66) (hopL ed) := fun W' hL' j v hv => hL'.cell (hcell j v hv)
      have HCL := Lib.hid hcl
      clear hcell hcl
      go_upto_region 6 with fail
      by_cases hc : p1 = false
      · subst hc
        have HNO : Hid (Rt.wrap l = ([], 2)) := Lib.hid (wrap_no hkl (by rw [HAT.out]; rfl))
        refine wp_region_seqL [Pr.eq (.slice (some ⟨b, o, none⟩) n c), Pr.eq (.int .i64 (k : Int)), Pr.eq (.pointer (some ⟨b, o + k * 66, none⟩)), Pr.eq (.agg (hopC ed)), Pr.eq (.bool false), Pr.eq (.bool true), Pr.eq (.bool true), Pr.eq (undef), Pr.eq (undef), Pr.eq (undef), Pr.eq (undef), Pr.eq (undef), Pr.eq (undef), Pr.eq (undef), Pr.eq (undef), Pr.eq (undef), Pr.eq (undef), Pr.eq (undef), Pr.eq (undef), Pr.eq (undef), Pr.eq (.bool true)] (by kernel_rfl) (by kernel_rfl) (by kernel_rfl) ⟨?_, ?_, ?_, ?_, ?_, ?_, ?_, ?_, ?_, ?_, ?_, ?_, ?_, ?_, ?_, ?_, ?_, ?_, ?_, ?_, ?_, trivial⟩ ?_
        · exact fun ac W hL he => stepOk_want rfl (op_move rfl (he.keep (.tmp 0) (by kernel_rfl)))
        · exact fun ac W hL he => stepOk_want rfl (op_move rfl (he.keep (.tmp 4) (by kernel_rfl)))
        · exact fun ac W hL he => stepOk_want rfl (op_idx rfl (he.get 0 21 (by kernel_rfl) rfl) (he.get 1 22 (by kernel_rfl) rfl) (hix W) rfl)
        · exact fun ac W hL he => stepOk_want rfl (op_load rfl (he.get 2 23 (by kernel_rfl) rfl) (loadHopM hew (HCL.out W hL)) rfl)
        · intro ac W hL he; refine stepOk_want rfl ?_; have e0 : ac.eval (.tmp 24) = .agg (hopC ed) := (he.get 3 24 (by kernel_rfl) rfl); exact op_callF (vs := #[.agg (hopC ed)]) rfl (by simp only [List.map_toArray, List.map_cons, List.map_nil, e0]) (enters_of Tryz.func28 (by kernel_rfl) rfl) (((hph W)).mono fun e W' ⟨he', hb⟩ => ⟨_, he', hb, rfl⟩)
        · exact fun ac W hL he => stepOk_want rfl (op_not rfl (he.get 4 25 (by kernel_rfl) rfl) rfl)
        · exact fun ac W hL he => stepOk_want rfl (op_move rfl (he.get 5 26 (by kernel_rfl) rfl))
        · exact fun ac W hL he => stepOk_no rfl rfl (he.get 6 27 (by kernel_rfl) rfl) (by decide) rfl
        · exact fun ac W hL he => stepOk_no rfl rfl (he.get 6 27 (by kernel_rfl) rfl) (by decide) rfl
        · exact fun ac W hL he => stepOk_no rfl rfl (he.get 6 27 (by kernel_rfl) rfl) (by decide) rfl
        · exact fun ac W hL he => stepOk_no rfl rfl (he.get 6 27 (by kernel_rfl) rfl) (by decide) rfl
        · exact fun ac W hL he => stepOk_no rfl rfl (he.get 6 27 (by kernel_rfl) rfl) (by decide) rfl
        · exact fun ac W hL he => stepOk_no rfl rfl (he.get 6 27 (by kernel_rfl) rfl) (by decide) rfl
        · exact fun ac W hL he => stepOk_no rfl rfl (he.get 6 27 (by kernel_rfl) rfl) (by decide) rfl
        · exact fun ac W hL he => stepOk_no rfl rfl (he.get 6 27 (by kernel_rfl) rfl) (by decide) rfl
        · exact fun ac W hL he => stepOk_no rfl rfl (he.get 6 27 (by kernel_rfl) rfl) (by decide) rfl
        · exact fun ac W hL he => stepOk_no rfl rfl (he.get 6 27 (by kernel_rfl) rfl) (by decide) rfl
        · exact fun ac W hL he => stepOk_no rfl rfl (he.get 6 27 (by kernel_rfl) rfl) (by decide) rfl
        · exact fun ac W hL he => stepOk_no rfl rfl (he.get 6 27 (by kernel_rfl) rfl) (by decide) rfl
        · exact fun ac W hL he => stepOk_no rfl rfl (he.get 6 27 (by kernel_rfl) rfl) (by decide) rfl
        · exact fun ac W hL he => stepOk_want rfl (op_pick (b := true) rfl (he.get 6 27 (by kernel_rfl) rfl) rfl)
        intro xs W2 hL2 hx
        have v20 : xs 20 = .bool true := hx 20 (by decide)
        have HLR := Lib.hid (HL.out.step hL2).below
        simp only [putL, Nat.reduceAdd, Act.put, List.setIfInBounds_toArray, List.set_cons_succ, List.set_cons_zero]
        rw [v20]
        clear hx v20 hL2 hph hqe hix
        go_wp2_with fail
        exact HΦ.out _ _ ⟨by rw [HNO.out]; rfl, HLR.out⟩
      have hc' : p1 = true := by revert hc; cases p1 <;> simp
      clear hc
      subst hc'
      obtain ⟨dd, hdd⟩ : ∃ x, decide ((k : Int) = ((n - 1 : Nat) : Int)) = x := ⟨_, rfl⟩
      have hdk : decide (k + 1 = n) = dd := by
        rw [← hdd]
        exact decide_eq_decide.2 ⟨fun h => by omega, fun h => by omega⟩
      obtain ⟨bb, hbb⟩ : ∃ x, (!(nx == dd)) = x := ⟨_, rfl⟩
      have hnb := fun W => neqBools nx dd W
      rw [hbb] at hnb
      have hat2 : hopFit l k = !bb := by rw [HAT.out, hdk, ← hbb]; simp
      have HAT2 := Lib.hid hat2
      clear hat2 hdk hbb HAT
      by_cases hc : bb = true
      · subst hc
        have HNO : Hid (Rt.wrap l = ([], 2)) := Lib.hid (wrap_no hkl (by rw [HAT2.out]; rfl))
        refine wp_region_seqL [Pr.eq (.slice (some ⟨b, o, none⟩) n c), Pr.eq (.int .i64 (k : Int)), Pr.eq (.pointer (some ⟨b, o + k * 66, none⟩)), Pr.eq (.agg (hopC ed)), Pr.eq (.bool true), Pr.eq (.bool false), Pr.eq (.bool false), Pr.eq (.slice (some ⟨b, o, none⟩) n c), Pr.eq (.int .i64 (k : Int)), Pr.eq (.pointer (some ⟨b, o + k * 66, none⟩)), Pr.eq (.pointer (some ⟨b, o + k * 66 + 32, none⟩)), Pr.eq (.agg (hC ed.next)), Pr.eq (.agg (hC zh)), Pr.eq (.bool nx), Pr.eq (.int .i64 (k : Int)), Pr.eq (.slice (some ⟨b, o, none⟩) n c), Pr.eq (.int .i64 (n : Int)), Pr.eq (.int .i64 ((n - 1 : Nat) : Int)), Pr.eq (.bool dd), Pr.eq (.bool true), Pr.eq (.bool true)] (by kernel_rfl) (by kernel_rfl) (by kernel_rfl) ⟨?_, ?_, ?_, ?_, ?_, ?_, ?_, ?_, ?_, ?_, ?_, ?_, ?_, ?_, ?_, ?_, ?_, ?_, ?_, ?_, ?_, trivial⟩ ?_
        · exact fun ac W hL he => stepOk_want rfl (op_move rfl (he.keep (.tmp 0) (by kernel_rfl)))
        · exact fun ac W hL he => stepOk_want rfl (op_move rfl (he.keep (.tmp 4) (by kernel_rfl)))
        · exact fun ac W hL he => stepOk_want rfl (op_idx rfl (he.get 0 21 (by kernel_rfl) rfl) (he.get 1 22 (by kernel_rfl) rfl) (hix W) rfl)
        · exact fun ac W hL he => stepOk_want rfl (op_load rfl (he.get 2 23 (by kernel_rfl) rfl) (loadHopM hew (HCL.out W hL)) rfl)
        · intro ac W hL he; refine stepOk_want rfl ?_; have e0 : ac.eval (.tmp 24) = .agg (hopC ed) := (he.get 3 24 (by kernel_rfl) rfl); exact op_callF (vs := #[.agg (hopC ed)]) rfl (by simp only [List.map_toArray, List.map_cons, List.map_nil, e0]) (enters_of Tryz.func28 (by kernel_rfl) rfl) (((hph W)).mono fun e W' ⟨he', hb⟩ => ⟨_, he', hb, rfl⟩)
        · exact fun ac W hL he => stepOk_want rfl (op_not rfl (he.get 4 25 (by kernel_rfl) rfl) rfl)
        · exact fun ac W hL he => stepOk_want rfl (op_move rfl (he.get 5 26 (by kernel_rfl) rfl))
        · exact fun ac W hL he => stepOk_yes (j := 6) (t := 27) (b := false) rfl rfl (he.get 6 27 (by kernel_rfl) rfl) (op_move rfl (he.keep (.tmp 0) (by kernel_rfl)))
        · exact fun ac W hL he => stepOk_yes (j := 6) (t := 27) (b := false) rfl rfl (he.get 6 27 (by kernel_rfl) rfl) (op_move rfl (he.keep (.tmp 4) (by kernel_rfl)))
        · exact fun ac W hL he => stepOk_yes (j := 6) (t := 27) (b := false) rfl rfl (he.get 6 27 (by kernel_rfl) rfl) (op_idx rfl (he.get 7 28 (by kernel_rfl) rfl) (he.get 8 29 (by kernel_rfl) rfl) (hix W) rfl)
        · exact fun ac W hL he => stepOk_yes (j := 6) (t := 27) (b := false) rfl rfl (he.get 6 27 (by kernel_rfl) rfl) (op_fieldAddr rfl (he.get 9 30 (by kernel_rfl) rfl) fHop1 rfl)
        · exact fun ac W hL he => stepOk_yes (j := 6) (t := 27) (b := false) rfl rfl (he.get 6 27 (by kernel_rfl) rfl) (op_load rfl (he.get 10 31 (by kernel_rfl) rfl) (loadNextM hew (HCL.out W hL)) rfl)
        · intro ac W hL he; refine stepOk_yes (j := 6) (t := 27) (b := false) rfl rfl (he.get 6 27 (by kernel_rfl) rfl) ?_; exact op_build (vs := #[]) rfl (by simp only [List.map_toArray, List.map_cons, List.map_nil]) (buildH0r W) rfl
        · exact fun ac W hL he => stepOk_yes (j := 6) (t := 27) (b := false) rfl rfl (he.get 6 27 (by kernel_rfl) rfl) (op_binOp rfl (he.get 11 32 (by kernel_rfl) rfl) (he.get 12 33 (by kernel_rfl) rfl) (eqgHashR _ _ _ _ _ _) (hqe W) rfl)
        · exact fun ac W hL he => stepOk_yes (j := 6) (t := 27) (b := false) rfl rfl (he.get 6 27 (by kernel_rfl) rfl) (op_move rfl (he.keep (.tmp 4) (by kernel_rfl)))
        · exact fun ac W hL he => stepOk_yes (j := 6) (t := 27) (b := false) rfl rfl (he.get 6 27 (by kernel_rfl) rfl) (op_move rfl (he.keep (.tmp 0) (by kernel_rfl)))
        · exact fun ac W hL he => stepOk_yes (j := 6) (t := 27) (b := false) rfl rfl (he.get 6 27 (by kernel_rfl) rfl) (op_len Tryz.underlying22 rfl (he.get 15 36 (by kernel_rfl) rfl) rfl)
        · exact fun ac W hL he => stepOk_yes (j := 6) (t := 27) (b := false) rfl rfl (he.get 6 27 (by kernel_rfl) rfl) (op_binOp rfl (he.get 16 37 (by kernel_rfl) rfl) rfl (eqg_any rfl) (subN (x := n) (y := 1) hn1 (by omega)) rfl)
        · exact fun ac W hL he => stepOk_yes (j := 6) (t := 27) (b := false) rfl rfl (he.get 6 27 (by kernel_rfl) rfl) (op_binOp rfl (he.get 14 35 (by kernel_rfl) rfl) (he.get 17 38 (by kernel_rfl) rfl) eqgI (eqDec hdd) rfl)
        · exact fun ac W hL he => stepOk_yes (j := 6) (t := 27) (b := false) rfl rfl (he.get 6 27 (by kernel_rfl) rfl) (op_binOp rfl (he.get 13 34 (by kernel_rfl) rfl) (he.get 18 39 (by kernel_rfl) rfl) eqgB (hnb W) rfl)
        · exact fun ac W hL he => stepOk_want rfl (op_pick (b := false) rfl (he.get 6 27 (by kernel_rfl) rfl) (he.get 19 40 (by kernel_rfl) rfl))
        intro xs W2 hL2 hx
        have v20 : xs 20 = .bool true := hx 20 (by decide)
        have HLR := Lib.hid (HL.out.step hL2).below
        simp only [putL, Nat.reduceAdd, Act.put, List.setIfInBounds_toArray, List.set_cons_succ, List.set_cons_zero]
        rw [v20]
        clear hx v20 hL2 hph hqe hix hnb hdd
        go_wp2_with fail
        exact HΦ.out _ _ ⟨by rw [HNO.out]; rfl, HLR.out⟩
      have hc' : bb = false := by revert hc; cases bb <;> simp
      clear hc
      subst hc'
      refine wp_region_seqL [Pr.eq (.slice (some ⟨b, o, none⟩) n c), Pr.eq (.int .i64 (k : Int)), Pr.eq (.pointer (some ⟨b, o + k * 66, none⟩)), Pr.eq (.agg (hopC ed)), Pr.eq (.bool true), Pr.eq (.bool false), Pr.eq (.bool false), Pr.eq (.slice (some ⟨b, o, none⟩) n c), Pr.eq (.int .i64 (k : Int)), Pr.eq (.pointer (some ⟨b, o + k * 66, none⟩)), Pr.eq (.pointer (some ⟨b, o + k * 66 + 32, none⟩)), Pr.eq (.agg (hC ed.next)), Pr.eq (.agg (hC zh)), Pr.eq (.bool nx), Pr.eq (.int .i64 (k : Int)), Pr.eq (.slice (some ⟨b, o, none⟩) n c), Pr.eq (.int .i64 (n : Int)), Pr.eq (.int .i64 ((n - 1 : Nat) : Int)), Pr.eq (.bool dd), Pr.eq (.bool false), Pr.eq (.bool false)] (by kernel_rfl) (by kernel_rfl) (by kernel_rfl) ⟨?_, ?_, ?_, ?_, ?_, ?_, ?_, ?_, ?_, ?_, ?_, ?_, ?_, ?_, ?_, ?_, ?_, ?_, ?_, ?_, ?_, trivial⟩ ?_
      · exact fun ac W hL he => stepOk_want rfl (op_move rfl (he.keep (.tmp 0) (by kernel_rfl)))
      · exact fun ac W hL he => stepOk_want rfl (op_move rfl (he.keep (.tmp 4) (by kernel_rfl)))
      · exact fun ac W hL he => stepOk_want rfl (op_idx rfl (he.get 0 21 (by kernel_rfl) rfl) (he.get 1 22 (by kernel_rfl) rfl) (hix W) rfl)
      · exact fun ac W hL he => stepOk_want rfl (op_load rfl (he.get 2 23 (by kernel_rfl) rfl) (loadHopM hew (HCL.out W hL)) rfl)
      · intro ac W hL he; refine stepOk_want rfl ?_; have e0 : ac.eval (.tmp 24) = .agg (hopC ed) := (he.get 3 24 (by kernel_rfl) rfl); exact op_callF (vs := #[.agg (hopC ed)]) rfl (by simp only [List.map_toArray, List.map_cons, List.map_nil, e0]) (enters_of Tryz.func28 (by kernel_rfl) rfl) (((hph W)).mono fun e W' ⟨he', hb⟩ => ⟨_, he', hb, rfl⟩)
      · exact fun ac W hL he => stepOk_want rfl (op_not rfl (he.get 4 25 (by kernel_rfl) rfl) rfl)
      · exact fun ac W hL he => stepOk_want rfl (op_move rfl (he.get 5 26 (by kernel_rfl) rfl))
      · exact fun ac W hL he => stepOk_yes (j := 6) (t := 27) (b := false) rfl rfl (he.get 6 27 (by kernel_rfl) rfl) (op_move rfl (he.keep (.tmp 0) (by kernel_rfl)))
      · exact fun ac W hL he => stepOk_yes (j := 6) (t := 27) (b := false) rfl rfl (he.get 6 27 (by kernel_rfl) rfl) (op_move rfl (he.keep (.tmp 4) (by kernel_rfl)))
      · exact fun ac W hL he => stepOk_yes (j := 6) (t := 27) (b := false) rfl rfl (he.get 6 27 (by kernel_rfl) rfl) (op_idx rfl (he.get 7 28 (by kernel_rfl) rfl) (he.get 8 29 (by kernel_rfl) rfl) (hix W) rfl)
      · exact fun ac W hL he => stepOk_yes (j := 6) (t := 27) (b := false) rfl rfl (he.get 6 27 (by kernel_rfl) rfl) (op_fieldAddr rfl (he.get 9 30 (by kernel_rfl) rfl) fHop1 rfl)
      · exact fun ac W hL he => stepOk_yes (j := 6) (t := 27) (b := false) rfl rfl (he.get 6 27 (by kernel_rfl) rfl) (op_load rfl (he.get 10 31 (by kernel_rfl) rfl) (loadNextM hew (HCL.out W hL)) rfl)
      · intro ac W hL he; refine stepOk_yes (j := 6) (t := 27) (b := false) rfl rfl (he.get 6 27 (by kernel_rfl) rfl) ?_; exact op_build (vs := #[]) rfl (by simp only [List.map_toArray, List.map_cons, List.map_nil]) (buildH0r W) rfl
      · exact fun ac W hL he => stepOk_yes (j := 6) (t := 27) (b := false) rfl rfl (he.get 6 27 (by kernel_rfl) rfl) (op_binOp rfl (he.get 11 32 (by kernel_rfl) rfl) (he.get 12 33 (by kernel_rfl) rfl) (eqgHashR _ _ _ _ _ _) (hqe W) rfl)
      · exact fun ac W hL he => stepOk_yes (j := 6) (t := 27) (b := false) rfl rfl (he.get 6 27 (by kernel_rfl) rfl) (op_move rfl (he.keep (.tmp 4) (by kernel_rfl)))
      · exact fun ac W hL he => stepOk_yes (j := 6) (t := 27) (b := false) rfl rfl (he.get 6 27 (by kernel_rfl) rfl) (op_move rfl (he.keep (.tmp 0) (by kernel_rfl)))
      · exact fun ac W hL he => stepOk_yes (j := 6) (t := 27) (b := false) rfl rfl (he.get 6 27 (by kernel_rfl) rfl) (op_len Tryz.underlying22 rfl (he.get 15 36 (by kernel_rfl) rfl) rfl)
      · exact fun ac W hL he => stepOk_yes (j := 6) (t := 27) (b := false) rfl rfl (he.get 6 27 (by kernel_rfl) rfl) (op_binOp rfl (he.get 16 37 (by kernel_rfl) rfl) rfl (eqg_any rfl) (subN (x := n) (y := 1) hn1 (by omega)) rfl)
      · exact fun ac W hL he => stepOk_yes (j := 6) (t := 27) (b := false) rfl rfl (he.get 6 27 (by kernel_rfl) rfl) (op_binOp rfl (he.get 14 35 (by kernel_rfl) rfl) (he.get 17 38 (by kernel_rfl) rfl) eqgI (eqDec hdd) rfl)
      · exact fun ac W hL he => stepOk_yes (j := 6) (t := 27) (b := false) rfl rfl (he.get 6 27 (by kernel_rfl) rfl) (op_binOp rfl (he.get 13 34 (by kernel_rfl) rfl) (he.get 18 39 (by kernel_rfl) rfl) eqgB (hnb W) rfl)
      · exact fun ac W hL he => stepOk_want rfl (op_pick (b := false) rfl (he.get 6 27 (by kernel_rfl) rfl) (he.get 19 40 (by kernel_rfl) rfl))
      intro xs W2 hL2 hx
      have v20 : xs 20 = .bool false := hx 20 (by decide)
      have HL2 := Lib.hid (HLW.out.step hL2)
      simp only [putL, Nat.reduceAdd, Act.put, List.setIfInBounds_toArray, List.set_cons_succ, List.set_cons_zero]
      rw [v20]
      clear hx v20 hL2 hph hqe hix hnb hdd
      go_wp2_with fail
      go_roundw
      case rel =>
        refine ⟨k + 1, by omega, by go_num, fun i hi => ?_, HL2.out⟩
        by_cases e : i = k
        · subst e; rw [HAT2.out]; rfl
        · exact HOKS.out i (by omega)
      case measure => simp [intOf]; omega
    · obtain rfl : k = n := by omega
      have hd : decide ((k : Int) < (k : Int)) = false := decide_eq_false (by omega)
      have hd' : decide (k < k) = false := decide_eq_false (by omega)
      have hall : ∀ i, i < l.length → hopFit l i = true := fun i hi => hoks i (by rw [← HN.out]; exact hi)
      have hwr : Rt.wrap l = (if 512 < (wrapL l).length then ([], 3) else (wrapL l, 0)) := wrap_yes hall (by rw [HN.out]; exact hn1) (by rw [HN.out]; exact hn6)
      have HALL := Lib.hid hall
      have HWR := Lib.hid hwr
      have HA := Lib.hid (hA1.later hL)
      have HL := Lib.hid (L0.step hL)
      clear hall hwr hoks hL L0 hA1
      go_wp2_with fail
      go_loopw [5, 6] (fun v t w' => ∃ j : Nat, j ≤ k ∧ t = .int .i64 ((j : Int) - 1) ∧ v = .string ⟨(wrapL (l.drop j)).toArray⟩ ∧ Later wr w') (fun _ t _ => (intOf t + 1).toNat)
      case atStart => exact ⟨k, Nat.le_refl _, by go_num, by rw [List.drop_of_length_le (by rw [HN.out]; exact Nat.le_refl _)]; rfl, Later.refl _⟩
      case round =>
        obtain ⟨j, hj, rfl, rfl, hL⟩ := hrel
        by_cases hj0 : j = 0
        · subst hj0
          rw [show (((0 : Nat) : Int) - 1) = -1 from rfl, List.drop_zero]
          obtain ⟨out, hout⟩ : ∃ x, wrapL l = x := ⟨_, rfl⟩
          have hwr := HWR.out
          rw [hout] at hwr ⊢
          have hol : out.length ≤ 1000 := by
            have := wrapL_len HWF.out
            rw [← hout]
            have := HN.out
            omega
          have hsz : (⟨out.toArray⟩ : ByteArray).size = out.length := by simp [ByteArray.size]
          have HEND := Lib.hid (HL.out.step hL).below
          clear hout HWR
          by_cases hbig : 512 < out.length
          · have hq : decide ((512 : Int) < (out.length : Int)) = true := decide_eq_true (by omega)
            have hq' : decide (512 < out.length) = true := decide_eq_true hbig
            rw [if_pos hbig] at hwr
            have HWR := Lib.hid hwr
            clear hwr hL
            generalize out.length = m at *
            go_wp2_with fail
            exact HΦ.out _ _ ⟨by rw [HWR.out]; rfl, HEND.out⟩
          · have hq : decide ((512 : Int) < (out.length : Int)) = false := decide_eq_false (by omega)
            have hq' : decide (512 < out.length) = false := decide_eq_false hbig
            rw [if_neg hbig] at hwr
            have HWR := Lib.hid hwr
            clear hwr hL
            generalize out.length = m at *
            go_wp2_with fail
            exact HΦ.out _ _ ⟨by rw [HWR.out]; rfl, HEND.out⟩
        · obtain ⟨i, rfl⟩ : ∃ i, j = i + 1 := ⟨j - 1, by omega⟩
          have hcv : (((i + 1 : Nat) : Int) - 1) = (i : Int) := by omega
          rw [hcv]
          have hlt : i < k := by omega
          have hkl : i < l.length := by rw [HN.out]; exact hlt
          obtain ⟨b, o, rfl, hcell⟩ := (HA.out.later hL).at_ (k := i) (by simpa using hkl)
          rw [List.getElem_map] at hcell
          have hew := HWF.out _ (List.getElem_mem hkl)
          have hge : l.getD i noHop = l[i] := getD_lt hkl
          have hpd := hopFit_paid (HALL.out i hkl)
          have hdr := wrapL_drop hkl
          rw [hge] at hpd hdr
          obtain ⟨ed, hed⟩ : ∃ e, l[i] = e := ⟨_, rfl⟩
          rw [hed] at hcell hew hpd hdr
          obtain ⟨out, hout⟩ : ∃ x, wrapL (l.drop (i + 1)) = x := ⟨_, rfl⟩
          rw [hout] at hdr ⊢
          have hol : out.length ≤ 1000 := by
            have := wrapL_len (l := l.drop (i + 1)) (fun h hh => HWF.out h (List.mem_of_mem_drop hh))
            rw [hout, List.length_drop] at this
            have := HN.out
            omega
          have hix := fun W => idxHop (b := b) (o := o) (n := k) (c := c) (i := i) W hlt
          have hld := loadHopM hew hcell
          have hse := refSealed_any ed hew hpd out hol wr
          have hge0 : decide ((i : Int) ≥ 0) = true := decide_eq_true (by omega)
          have hge1 : decide ((0 : Int) ≤ (i : Int)) = true := decide_eq_true (by omega)
          have HDR := Lib.hid hdr
          have HLW := Lib.hid hL
          clear hed hge hdr hout hcell hL
          go_wp2_with (first
            | (guard_target =~ wpList _ _ _ (_ :: _) _ _; refine wpList_idx rfl 22 _ _ rfl (.slice (some ⟨b, o, none⟩) k c) (.int .i64 (i : Int)) rfl rfl (hix _) ?_)
            | (guard_target =~ wpList _ _ _ (_ :: _) _ _; refine wpList_load rfl 27 (.tmp 51) rfl (.pointer (some ⟨b, o + i * 66, none⟩)) rfl hld ?_)
            | (go_at_call 29; refine hse.mono ?_; clear hse; rintro e w9 ⟨rfl, hb9⟩)
            | fail)
          go_roundw
          case rel =>
            refine ⟨i, by omega, by go_num, by rw [HDR.out], HLW.out.step hb9⟩
          case measure => simp [intOf]
end Go.Proofs.YtloiaaolnfimgaaGreat
namespace Go.Proofs.YtloiaaolnfimgaaGreat
open Go.RowKit Rt
attribute [local go_sem] Oper.semAt_some
def hAt (l : List Rt.Hop) (k : Nat) : Int × Rt.Hop := (((l.length - 1 - k : Nat) : Int), l.getD (l.length - 1 - k) noHop)
abbrev bHp (x : Int × Rt.Hop) : Array Value := #[.int .i64 x.1, .agg (hopC x.2)]
theorem backH_any (A : Option Addr) (n c : Nat) (w : World) :
    Calls Tryz.prog 27 #[.slice A n c] w fun e w' => e = .returned (.func (.func 74) #[] #[.pointer (some ⟨w.heap.size, 0, none⟩)]) ∧ w' = w.alloc (.cells #[.slice A n c] 22) := by
  have hmf : ∀ (fn : Fn) (first cap : Array Value) (w : World), (Instr.makeFunc fn first cap).run Tryz.prog w = .ok (.func fn first cap) w := fun _ _ _ _ => rfl
  go_enter Tryz.func27, Tryz.ntmps27
  go_wp2
  go_ret
  exact ⟨rfl, rfl⟩
theorem loadHopsW {b o : Nat} {v : Value} {W : World} (hc : W.cell? ⟨b, o, none⟩ = some v) : (Instr.loadAt 22 (.pointer (some ⟨b, o, none⟩))).run Tryz.prog W = .ok v W := by
  go_simp
set_option maxRecDepth 100000 in
set_option maxHeartbeats 4000000 in
theorem backH1_seq (l : List Rt.Hop) (hl : ∀ e ∈ l, e.wf) (gb : Nat) (A : Option Addr) (n c : Nat) (w : World) (n1 : Nat) (hn1 : 1 ≤ n1) (D : Nat → Prop) (hDb : ¬ D gb) (hDA : ∀ b o, A = some ⟨b, o, none⟩ → ¬ D b) (hn : l.length = n) (hnm : n ≤ 1000000) (hA : Recs 66 w A (l.map hopL)) (hk : Row w gb 22 #[.slice A n c]) :
    SeqW Fence.wide n1 Tryz.prog 74 #[.pointer (some ⟨gb, 0, none⟩)] bHp (fun _ => KeepB D) (fun xs => xs.length = n) (fun _ => True) (fun pre x _ => pre.length < n ∧ x = hAt l pre.length) (fun _ => False) w := fun k0 J Jx W hW hW2 hJ hJx hY h0 => by
  have hkW := hk.belowAll hW
  have hAW := hA.below hW
  have HY := Lib.hid hY
  have HJ := Lib.hid hJ
  have HN := Lib.hid hn
  have HL := Lib.hid hl
  clear hY hJ hJx hk hA hW hn hl
  refine callsIn_of_wp Tryz.func74 rfl trivial ?_ rfl
  simp only [Tryz.ntmps74, List.size_toArray, List.length_cons, List.length_nil, Nat.reduceAdd, Nat.reduceSub, Array.replicate_succ, Array.replicate_zero, List.push_toArray, List.append_toArray, List.nil_append, List.cons_append]
  have c1 : W.cell? ⟨gb, 0, none⟩ = some (.slice A n c) := (hkW.cell 0).trans rfl
  have e1 : IntKind.i64.wrap ((n : Int) - 1) = (n : Int) - 1 := IntWalk.i64_in _ (by omega)
  gi_wp2
  gi_loopw [3] (fun v wr => ∃ pre : List (Int × Rt.Hop), v = .int .i64 ((n : Int) - 1 - (pre.length : Int)) ∧ pre.length ≤ n ∧ Row wr gb 22 #[.slice A n c] ∧ Recs 66 wr A (l.map hopL) ∧ J pre wr) (fun v _ => (intOf v + 1).toNat)
  case atStart => exact ⟨[], by simp, by simp, hkW, hAW, h0⟩
  case round =>
    obtain ⟨pre, rfl, hle, hkr, hAr, hJr⟩ := hrel
    clear hkW hAW h0 c1
    by_cases hlt : pre.length < n
    · have hd : decide (((n : Int) - 1 - (pre.length : Int)) ≥ 0) = true := decide_eq_true (by omega)
      have hd' : decide (0 ≤ ((n : Int) - 1 - (pre.length : Int))) = true := decide_eq_true (by omega)
      have hi : n - 1 - pre.length < l.length := by rw [HN.out]; omega
      obtain ⟨b, o, rfl, hcell⟩ := hAr.at_ (k := n - 1 - pre.length) (by simpa using hi)
      rw [List.getElem_map] at hcell
      have hew := HL.out _ (List.getElem_mem hi)
      have hld := loadHopM hew hcell
      have hcv : ((n : Int) - 1 - (pre.length : Int)) = ((n - 1 - pre.length : Nat) : Int) := by omega
      have hix := fun W => idxHop (b := b) (o := o) (n := n) (c := c) (i := n - 1 - pre.length) W (by omega)
      have hx : hAt l pre.length = (((n - 1 - pre.length : Nat) : Int), l[n - 1 - pre.length]) := by
        unfold hAt
        rw [HN.out, getD_lt hi]
      obtain ⟨fn, tmps, assign, body, hy, hR⟩ := HY.out pre (hAt l pre.length) wr hJr ⟨hlt, rfl⟩
      rw [hx] at hy hR
      have c1 : wr.cell? ⟨gb, 0, none⟩ = some (.slice (some ⟨b, o, none⟩) n c) := (hkr.cell 0).trans rfl
      have hls := loadHopsW c1
      rw [hcv] at hd hd' ⊢
      have hw63 : ((n - 1 - pre.length : Nat) : Int) < 9223372036854775807 := by omega
      generalize l[n - 1 - pre.length] = ed at *
      generalize hgi : n - 1 - pre.length = i at *
      have HX := Lib.hid hx
      clear hx hcell
      gi_wp2_with (first
        | (refine wpListIn_loadG rfl 22 (.tmp 1) rfl (.pointer (some ⟨gb, 0, none⟩)) rfl hls ?_)
        | (refine wpListIn_idxG rfl 22 (.tmp 13) (.tmp 14) rfl (.slice (some ⟨b, o, none⟩) n c) (.int .i64 (i : Int)) rfl rfl (hix _) ?_)
        | (refine wpListIn_loadG rfl 27 (.tmp 15) rfl (.pointer (some ⟨b, o + i * 66, none⟩)) rfl hld ?_)
        | fail)
      refine hR.mono ?_
      rintro e Y (⟨rfl, hJ5, hk5⟩ | ⟨rfl, hJx5, hk5⟩)
      · have hkr5 := hk5.row hkr hDb
        have hA5 := hk5.recs hAr hDA
        have e2 : IntKind.i64.wrap ((i : Int) - 1) = (i : Int) - 1 := IntWalk.i64_in _ (by omega)
        clear hkr hAr hy hR hk5 hls hix hld
        gi_wp2
        refine ⟨⟨pre ++ [((i : Int), ed)], ?_, ?_, hkr5, hA5, hJ5⟩, ?_⟩
        · rw [List.length_append, List.length_singleton]
          congr 1
          omega
        · rw [List.length_append, List.length_singleton]
          omega
        · simp [intOf]
      · gi_wp2
        refine ⟨rfl, _, results_none rfl _ _ _, ⟨_, rfl⟩, .inr ⟨_, trivial, hJx5⟩⟩
    · have hd : decide (((n : Int) - 1 - (pre.length : Int)) ≥ 0) = false := decide_eq_false (by omega)
      have hd' : decide (0 ≤ ((n : Int) - 1 - (pre.length : Int))) = false := decide_eq_false (by omega)
      gi_wp2
      refine ⟨rfl, _, results_none rfl _ _ _, ⟨_, rfl⟩, .inl ⟨pre, by omega, hJr⟩⟩
end Go.Proofs.YtloiaaolnfimgaaGreat
namespace Go.Proofs.YtloiaaolnfimgaaGreat
open Go.RowKit Rt
attribute [local go_sem] Oper.semAt_some
set_option maxRecDepth 100000 in
set_option maxHeartbeats 1000000 in
theorem wrapFn_any (q : Nat) (h : Hop) (hw : h.wf) (hok : paid h.amt h.exp = true) (out : List UInt8) (hout : out.length ≤ 1000) (w : World) (hr : Row w q 9 #[.string ⟨out.toArray⟩]) :
    Calls Tryz.prog 25 #[.agg (hopC h), .pointer (some ⟨q, 0, none⟩)] w fun e w' => e = .returned (.tuple #[]) ∧ Row w' q 9 #[.string ⟨(sealedL h out).toArray⟩] ∧ Same (fun k => k < w.heap.size ∧ k ≠ q) w w' := by
  refine Calls.post fun Φ HΦ => ?_
  have hbx := boxHopA hw w
  have kh := Row.new w 27 (hopC h)
  have hL : Later w (w.alloc (.cells (hopC h) 27)) := below_new w _
  have hr1 := hr.later hL
  have hld := loadHopR hw kh
  have hls := ldStr ((hr1.cell 0).trans rfl)
  obtain ⟨S, hS⟩ : ∃ S, sealedL h out = S := ⟨_, rfl⟩
  rw [hS] at HΦ
  have hq := hr.lt
  have HL := Lib.hid hL
  have HSS := Lib.hid hS
  clear hr hL hS
  go_enter Tryz.func25, Tryz.ntmps25
  go_upto_region 1 with (first
    | (guard_target =~ wpList _ _ _ (_ :: _) _ _; refine wpList_box rfl 27 (.tmp 0) rfl (.agg (hopC h)) rfl hbx ?_)
    | fail)
  obtain ⟨q3, hq3⟩ : ∃ g, g = w.heap.size := ⟨_, rfl⟩
  rw [← hq3] at hld kh ⊢
  clear hbx hq3
  generalize w.alloc (.cells (hopC h) 27) = w1 at *
  have hse := sealed_any h hw hok out hout w1
  rw [HSS.out] at hse
  go_wp2_with (first
    | (guard_target =~ wpList _ _ _ (_ :: _) _ _; refine wpList_load rfl 27 (.tmp 2) rfl (.pointer (some ⟨q3, 0, none⟩)) rfl hld ?_)
    | (guard_target =~ wpList _ _ _ (_ :: _) _ _; refine wpList_build rfl 68 #[(0, .tmp 3)] rfl #[(0, .agg (hopC h))] (by simp only [List.map_toArray, List.map_cons, List.map_nil]; rfl) (buildHopR hw _) ?_; simp only [Act.put, List.setIfInBounds_toArray, List.set_cons_zero, List.set_cons_succ])
    | (guard_target =~ wpList _ _ _ (_ :: _) _ _; refine wpList_load rfl 9 (.tmp 1) rfl (.pointer (some ⟨q, 0, none⟩)) rfl hls ?_)
    | (go_at_call 26; refine hse.mono ?_; clear hse; rintro e w9 ⟨rfl, hb9⟩; have hr9 := hr1.later hb9; have hst := stStr (y := ⟨S.toArray⟩) ((hr9.cell 0).trans rfl) (hr9.frozen 0))
    | (guard_target =~ wpList _ _ _ (_ :: _) _ _; refine wpList_store rfl 9 (.tmp 1) (.tmp 6) rfl (.pointer (some ⟨q, 0, none⟩)) (.string ⟨S.toArray⟩) rfl rfl hst ?_)
    | fail)
  have h1 : Same (fun k => k < w.heap.size ∧ k ≠ q) w w9 := (Same.of_below (HL.out.step hb9).below).mono (fun k hk => hk.1)
  exact ⟨rfl, _, results_none rfl _ _ _, HΦ.out _ _ ⟨rfl, hr9.set 0 _, h1.trans ((Same.set w9 ⟨q, 0, none⟩ _).mono fun k hk => hk.2)⟩⟩
theorem loadWrapFn {b o : Nat} {v : Value} {W : World} (hc : W.cell? ⟨b, o, none⟩ = some v) : (Instr.loadAt 71 (.pointer (some ⟨b, o, none⟩))).run Tryz.prog W = .ok v W := by
  go_simp
theorem retM {F : Fence} {n : Nat} {P : Program} {fn : Func} {R : Ending → World → Prop} {T : Array Value} {w : World} {v : Value} (h : (results fn T).run P w = .ok v w) (hR : R (.returned v) w) : bodyPostM F n P fn R .ret { tmps := T, defers := [] } w := ⟨v, h, hR⟩
theorem leaveM {F : Fence} {n : Nat} {P : Program} {fn : Func} {R : Ending → World → Prop} {T : Array Value} {D : Nat} {w : World} {v : Value} (hD : w.heap[D]? = some (.deferred (some [])))
    (h : (results fn T).run P (w.putObj D (.deferred none)) = .ok v (w.putObj D (.deferred none))) (hR : R (.returned v) (w.putObj D (.deferred none))) : bodyPostM F n P fn R .ret { tmps := T, defers := [{ target := .collected D, args := #[] }] } w :=
  ⟨by simp, .inl ⟨_, _, rfl, run_takeDeferred hD, v, h, hR⟩⟩
theorem hAt_wf {l : List Rt.Hop} (hw : ∀ e ∈ l, e.wf) (k : Nat) : (hAt l k).2.wf := by
  unfold hAt
  simp only
  by_cases h : l.length - 1 - k < l.length
  · rw [getD_lt h]
    exact hw _ (List.getElem_mem h)
  · rw [List.getD_eq_getElem?_getD, List.getElem?_eq_none (by omega)]
    exact noHop_wf
set_option maxRecDepth 100000 in
set_option maxHeartbeats 4000000 in
theorem rwrap_any (l : List Hop) (A : Option Addr) (n c : Nat) (w : World) (hin : InHops w A n c l) (hn10 : n ≤ 10) : Calls Tryz.prog 9 #[.slice A n c] w fun e w' => e = .returned (.tuple #[.string ⟨(Rt.wrap l).1.toArray⟩, .int .i64 (Rt.wrap l).2]) ∧ Below w.heap.size w w' := by
  refine Calls.post fun Φ HΦ => ?_
  obtain ⟨hlen, hcap, hmost, hwf, hrd⟩ := hin
  have HN := Lib.hid hlen
  have HWF := Lib.hid hwf
  have hA1 := hrd
  clear hlen hwf hmost hcap hrd
  refine (callsIn_wide (n := 14)).1 ?_
  refine callsIn_of_wp_marks Tryz.func9 rfl trivial ?_ rfl
  simp only [Tryz.ntmps9, List.size_toArray, List.length_cons, List.length_nil, Nat.reduceAdd, Nat.reduceSub, Array.replicate_succ, Array.replicate_zero, List.push_toArray, List.append_toArray, List.nil_append, List.cons_append]
  refine wpIn_wide.2 ?_
  go_wp2_with fail
  go_loopw [12] (fun t wr => ∃ k : Nat, k ≤ n ∧ t = .int .i64 k ∧ (∀ i, i < k → hopFit l i = true) ∧ Later w wr) (fun t _ => n - (intOf t).toNat)
  case atStart => exact ⟨0, by omega, rfl, fun i h => by omega, Later.refl _⟩
  case round =>
    obtain ⟨k, hk, rfl, hoks, hL⟩ := hrel
    by_cases hlt : k < n
    · have hd : decide ((k : Int) < (n : Int)) = true := decide_eq_true (by omega)
      have hd' : decide (k < n) = true := decide_eq_true hlt
      have hkl : k < l.length := by rw [HN.out]; exact hlt
      obtain ⟨b, o, rfl, hcell⟩ := (hA1.later hL).at_ (k := k) (by simpa using hkl)
      rw [List.getElem_map] at hcell
      have hew := HWF.out _ (List.getElem_mem hkl)
      have hge : l.getD k noHop = l[k] := getD_lt hkl
      obtain ⟨ed, hed⟩ : ∃ e, l[k] = e := ⟨_, rfl⟩
      rw [hed] at hcell hew hge
      have hix := fun W => idxHop (b := b) (o := o) (n := n) (c := c) (i := k) W hlt
      have hld := loadHopM hew hcell
      have hpd := fun W => rpaid_any ed.amt ed.exp W
      have hen := fun W => rends_any ed hew W
      obtain ⟨p1, hp1⟩ : ∃ x, paid ed.amt ed.exp = x := ⟨_, rfl⟩
      obtain ⟨nx, hnx⟩ : ∃ x, (ed.next == zh) = x := ⟨_, rfl⟩
      have hat : hopFit l k = (p1 && (nx == decide (k + 1 = n))) := by unfold hopFit; rw [hge, hp1, hnx, HN.out]
      simp only [hp1] at hpd
      simp only [hnx] at hen
      obtain ⟨w1, hst, hr1, hL1⟩ := newHop wr hew
      have hl5 := fun W (hL : Later w1 W) => loadHopR hew (hr1.later hL)
      have hc2 := fun W (hL : Later w1 W) => cHop2 hew (hr1.later hL)
      have hc3 := fun W (hL : Later w1 W) => cHop3 hew (hr1.later hL)
      have HAT := Lib.hid hat
      have HOKS := Lib.hid hoks
      have HL := Lib.hid ((hL.step hL1))
      clear hat hoks hge hed hp1 hnx hcell hr1 hL hL1
      go_upto_region 4 with (first
        | (guard_target =~ wpList _ _ _ (_ :: _) _ _; refine wpList_idx rfl 22 _ _ rfl (.slice (some ⟨b, o, none⟩) n c) (.int .i64 (k : Int)) rfl rfl (hix _) ?_)
        | (guard_target =~ wpList _ _ _ (_ :: _) _ _; refine wpList_load rfl 27 (.tmp 15) rfl (.pointer (some ⟨b, o + k * 66, none⟩)) rfl hld ?_)
        | (with_reducible refine wpList_alloc rfl 27 rfl (allocHop _) ?_)
        | (guard_target =~ wpList _ _ _ (_ :: _) _ _; refine wpList_store rfl 27 (.tmp 5) (.tmp 16) rfl (.pointer (some ⟨wr.heap.size, 0, none⟩)) (.agg (hopC ed)) rfl rfl hst ?_)
        | fail)
      obtain ⟨q, hq⟩ : ∃ q, q = wr.heap.size := ⟨_, rfl⟩
      rw [← hq] at hl5 hc2 hc3 ⊢
      clear hq hst hld hix
      by_cases hc : p1 = false
      · subst hc
        have HNO : Hid (Rt.wrap l = ([], 2)) := Lib.hid (wrap_no hkl (by rw [HAT.out]; rfl))
        refine wp_region_seqL [Pr.eq (.pointer (some ⟨q, 64, none⟩)), Pr.eq (.int .i64 ed.amt), Pr.eq (.pointer (some ⟨q, 65, none⟩)), Pr.eq (.int .i64 ed.exp), Pr.eq (.bool false), Pr.eq (.bool true), Pr.eq (.bool true), Pr.eq (undef), Pr.eq (undef), Pr.eq (undef), Pr.eq (undef), Pr.eq (undef), Pr.eq (undef), Pr.eq (undef), Pr.eq (undef), Pr.eq (undef), Pr.eq (.bool true)] (by kernel_rfl) (by kernel_rfl) (by kernel_rfl) ⟨?_, ?_, ?_, ?_, ?_, ?_, ?_, ?_, ?_, ?_, ?_, ?_, ?_, ?_, ?_, ?_, ?_, trivial⟩ ?_
        · exact fun ac W hL he => stepOk_want rfl (op_fieldAddr rfl (he.keep (.tmp 5) (by kernel_rfl)) fHop2 rfl)
        · exact fun ac W hL he => stepOk_want rfl (op_load rfl (he.get 0 17 (by kernel_rfl) rfl) (ldI64 (hc2 W hL)) rfl)
        · exact fun ac W hL he => stepOk_want rfl (op_fieldAddr rfl (he.keep (.tmp 5) (by kernel_rfl)) fHop3 rfl)
        · exact fun ac W hL he => stepOk_want rfl (op_load rfl (he.get 2 19 (by kernel_rfl) rfl) (ldI64 (hc3 W hL)) rfl)
        · intro ac W hL he; refine stepOk_want rfl ?_; have e0 : ac.eval (.tmp 18) = .int .i64 ed.amt := (he.get 1 18 (by kernel_rfl) rfl); have e1 : ac.eval (.tmp 20) = .int .i64 ed.exp := (he.get 3 20 (by kernel_rfl) rfl); exact op_callF (vs := #[.int .i64 ed.amt, .int .i64 ed.exp]) rfl (by simp only [List.map_toArray, List.map_cons, List.map_nil, e0, e1]) (enters_of Tryz.func22 (by kernel_rfl) rfl) (((hpd W)).mono fun e W' ⟨he', hw'⟩ => ⟨_, he', hw' ▸ Later.refl _, rfl⟩)
        · exact fun ac W hL he => stepOk_want rfl (op_not rfl (he.get 4 21 (by kernel_rfl) rfl) rfl)
        · exact fun ac W hL he => stepOk_want rfl (op_move rfl (he.get 5 22 (by kernel_rfl) rfl))
        · exact fun ac W hL he => stepOk_no rfl rfl (he.get 6 23 (by kernel_rfl) rfl) (by decide) rfl
        · exact fun ac W hL he => stepOk_no rfl rfl (he.get 6 23 (by kernel_rfl) rfl) (by decide) rfl
        · exact fun ac W hL he => stepOk_no rfl rfl (he.get 6 23 (by kernel_rfl) rfl) (by decide) rfl
        · exact fun ac W hL he => stepOk_no rfl rfl (he.get 6 23 (by kernel_rfl) rfl) (by decide) rfl
        · exact fun ac W hL he => stepOk_no rfl rfl (he.get 6 23 (by kernel_rfl) rfl) (by decide) rfl
        · exact fun ac W hL he => stepOk_no rfl rfl (he.get 6 23 (by kernel_rfl) rfl) (by decide) rfl
        · exact fun ac W hL he => stepOk_no rfl rfl (he.get 6 23 (by kernel_rfl) rfl) (by decide) rfl
        · exact fun ac W hL he => stepOk_no rfl rfl (he.get 6 23 (by kernel_rfl) rfl) (by decide) rfl
        · exact fun ac W hL he => stepOk_no rfl rfl (he.get 6 23 (by kernel_rfl) rfl) (by decide) rfl
        · exact fun ac W hL he => stepOk_want rfl (op_pick (b := true) rfl (he.get 6 23 (by kernel_rfl) rfl) rfl)
        intro xs W2 hL2 hx
        have v16 : xs 16 = .bool true := hx 16 (by decide)
        have HLR := Lib.hid (HL.out.step hL2).below
        simp only [putL, Nat.reduceAdd, Act.put, List.setIfInBounds_toArray, List.set_cons_succ, List.set_cons_zero]
        rw [v16]
        clear hx v16 hL2 hpd hen hl5 hc2 hc3
        go_wp2_with fail
        exact retM (results_tmp2 rfl _ _ _) (HΦ.out _ _ ⟨by rw [HNO.out]; rfl, HLR.out⟩)
      have hc' : p1 = true := by revert hc; cases p1 <;> simp
      clear hc
      subst hc'
      obtain ⟨dd, hdd⟩ : ∃ x, decide ((k : Int) = ((n - 1 : Nat) : Int)) = x := ⟨_, rfl⟩
      have hdk : decide (k + 1 = n) = dd := by
        rw [← hdd]
        exact decide_eq_decide.2 ⟨fun h => by omega, fun h => by omega⟩
      obtain ⟨bb, hbb⟩ : ∃ x, (!(nx == dd)) = x := ⟨_, rfl⟩
      have hnb := fun W => neqBools nx dd W
      rw [hbb] at hnb
      have hat2 : hopFit l k = !bb := by rw [HAT.out, hdk, ← hbb]; simp
      have HAT2 := Lib.hid hat2
      clear hat2 hdk hbb HAT
      have hn1 : 1 ≤ n := by omega
      by_cases hc : bb = true
      · subst hc
        have HNO : Hid (Rt.wrap l = ([], 2)) := Lib.hid (wrap_no hkl (by rw [HAT2.out]; rfl))
        refine wp_region_seqL [Pr.eq (.pointer (some ⟨q, 64, none⟩)), Pr.eq (.int .i64 ed.amt), Pr.eq (.pointer (some ⟨q, 65, none⟩)), Pr.eq (.int .i64 ed.exp), Pr.eq (.bool true), Pr.eq (.bool false), Pr.eq (.bool false), Pr.eq (.agg (hopC ed)), Pr.eq (.agg (hopC ed)), Pr.eq (.bool nx), Pr.eq (.int .i64 (k : Int)), Pr.eq (.slice (some ⟨b, o, none⟩) n c), Pr.eq (.int .i64 (n : Int)), Pr.eq (.int .i64 ((n - 1 : Nat) : Int)), Pr.eq (.bool dd), Pr.eq (.bool true), Pr.eq (.bool true)] (by kernel_rfl) (by kernel_rfl) (by kernel_rfl) ⟨?_, ?_, ?_, ?_, ?_, ?_, ?_, ?_, ?_, ?_, ?_, ?_, ?_, ?_, ?_, ?_, ?_, trivial⟩ ?_
        · exact fun ac W hL he => stepOk_want rfl (op_fieldAddr rfl (he.keep (.tmp 5) (by kernel_rfl)) fHop2 rfl)
        · exact fun ac W hL he => stepOk_want rfl (op_load rfl (he.get 0 17 (by kernel_rfl) rfl) (ldI64 (hc2 W hL)) rfl)
        · exact fun ac W hL he => stepOk_want rfl (op_fieldAddr rfl (he.keep (.tmp 5) (by kernel_rfl)) fHop3 rfl)
        · exact fun ac W hL he => stepOk_want rfl (op_load rfl (he.get 2 19 (by kernel_rfl) rfl) (ldI64 (hc3 W hL)) rfl)
        · intro ac W hL he; refine stepOk_want rfl ?_; have e0 : ac.eval (.tmp 18) = .int .i64 ed.amt := (he.get 1 18 (by kernel_rfl) rfl); have e1 : ac.eval (.tmp 20) = .int .i64 ed.exp := (he.get 3 20 (by kernel_rfl) rfl); exact op_callF (vs := #[.int .i64 ed.amt, .int .i64 ed.exp]) rfl (by simp only [List.map_toArray, List.map_cons, List.map_nil, e0, e1]) (enters_of Tryz.func22 (by kernel_rfl) rfl) (((hpd W)).mono fun e W' ⟨he', hw'⟩ => ⟨_, he', hw' ▸ Later.refl _, rfl⟩)
        · exact fun ac W hL he => stepOk_want rfl (op_not rfl (he.get 4 21 (by kernel_rfl) rfl) rfl)
        · exact fun ac W hL he => stepOk_want rfl (op_move rfl (he.get 5 22 (by kernel_rfl) rfl))
        · exact fun ac W hL he => stepOk_yes (j := 6) (t := 23) (b := false) rfl rfl (he.get 6 23 (by kernel_rfl) rfl) (op_load rfl (he.keep (.tmp 5) (by kernel_rfl)) (hl5 W hL) rfl)
        · intro ac W hL he; refine stepOk_yes (j := 6) (t := 23) (b := false) rfl rfl (he.get 6 23 (by kernel_rfl) rfl) ?_; have e0 : ac.eval (.tmp 24) = .agg (hopC ed) := (he.get 7 24 (by kernel_rfl) rfl); exact op_build (vs := #[(0, .agg (hopC ed))]) rfl (by simp only [List.map_toArray, List.map_cons, List.map_nil, e0]) (buildHopR hew W) rfl
        · intro ac W hL he; refine stepOk_yes (j := 6) (t := 23) (b := false) rfl rfl (he.get 6 23 (by kernel_rfl) rfl) ?_; have e0 : ac.eval (.tmp 25) = .agg (hopC ed) := (he.get 8 25 (by kernel_rfl) rfl); exact op_callF (vs := #[.agg (hopC ed)]) rfl (by simp only [List.map_toArray, List.map_cons, List.map_nil, e0]) (enters_of Tryz.func23 (by kernel_rfl) rfl) (((hen W)).mono fun e W' ⟨he', hb⟩ => ⟨_, he', hb, rfl⟩)
        · exact fun ac W hL he => stepOk_yes (j := 6) (t := 23) (b := false) rfl rfl (he.get 6 23 (by kernel_rfl) rfl) (op_move rfl (he.keep (.tmp 4) (by kernel_rfl)))
        · exact fun ac W hL he => stepOk_yes (j := 6) (t := 23) (b := false) rfl rfl (he.get 6 23 (by kernel_rfl) rfl) (op_move rfl (he.keep (.tmp 0) (by kernel_rfl)))
        · exact fun ac W hL he => stepOk_yes (j := 6) (t := 23) (b := false) rfl rfl (he.get 6 23 (by kernel_rfl) rfl) (op_len Tryz.underlying22 rfl (he.get 11 28 (by kernel_rfl) rfl) rfl)
        · exact fun ac W hL he => stepOk_yes (j := 6) (t := 23) (b := false) rfl rfl (he.get 6 23 (by kernel_rfl) rfl) (op_binOp rfl (he.get 12 29 (by kernel_rfl) rfl) rfl (eqg_any rfl) (subN (x := n) (y := 1) hn1 (by omega)) rfl)
        · exact fun ac W hL he => stepOk_yes (j := 6) (t := 23) (b := false) rfl rfl (he.get 6 23 (by kernel_rfl) rfl) (op_binOp rfl (he.get 10 27 (by kernel_rfl) rfl) (he.get 13 30 (by kernel_rfl) rfl) eqgI (eqDec hdd) rfl)
        · exact fun ac W hL he => stepOk_yes (j := 6) (t := 23) (b := false) rfl rfl (he.get 6 23 (by kernel_rfl) rfl) (op_binOp rfl (he.get 9 26 (by kernel_rfl) rfl) (he.get 14 31 (by kernel_rfl) rfl) eqgB (hnb W) rfl)
        · exact fun ac W hL he => stepOk_want rfl (op_pick (b := false) rfl (he.get 6 23 (by kernel_rfl) rfl) (he.get 15 32 (by kernel_rfl) rfl))
        intro xs W2 hL2 hx
        have v16 : xs 16 = .bool true := hx 16 (by decide)
        have HLR := Lib.hid (HL.out.step hL2).below
        simp only [putL, Nat.reduceAdd, Act.put, List.setIfInBounds_toArray, List.set_cons_succ, List.set_cons_zero]
        rw [v16]
        clear hx v16 hL2 hpd hen hl5 hc2 hc3 hnb hdd
        go_wp2_with fail
        exact retM (results_tmp2 rfl _ _ _) (HΦ.out _ _ ⟨by rw [HNO.out]; rfl, HLR.out⟩)
      have hc' : bb = false := by revert hc; cases bb <;> simp
      clear hc
      subst hc'
      refine wp_region_seqL [Pr.eq (.pointer (some ⟨q, 64, none⟩)), Pr.eq (.int .i64 ed.amt), Pr.eq (.pointer (some ⟨q, 65, none⟩)), Pr.eq (.int .i64 ed.exp), Pr.eq (.bool true), Pr.eq (.bool false), Pr.eq (.bool false), Pr.eq (.agg (hopC ed)), Pr.eq (.agg (hopC ed)), Pr.eq (.bool nx), Pr.eq (.int .i64 (k : Int)), Pr.eq (.slice (some ⟨b, o, none⟩) n c), Pr.eq (.int .i64 (n : Int)), Pr.eq (.int .i64 ((n - 1 : Nat) : Int)), Pr.eq (.bool dd), Pr.eq (.bool false), Pr.eq (.bool false)] (by kernel_rfl) (by kernel_rfl) (by kernel_rfl) ⟨?_, ?_, ?_, ?_, ?_, ?_, ?_, ?_, ?_, ?_, ?_, ?_, ?_, ?_, ?_, ?_, ?_, trivial⟩ ?_
      · exact fun ac W hL he => stepOk_want rfl (op_fieldAddr rfl (he.keep (.tmp 5) (by kernel_rfl)) fHop2 rfl)
      · exact fun ac W hL he => stepOk_want rfl (op_load rfl (he.get 0 17 (by kernel_rfl) rfl) (ldI64 (hc2 W hL)) rfl)
      · exact fun ac W hL he => stepOk_want rfl (op_fieldAddr rfl (he.keep (.tmp 5) (by kernel_rfl)) fHop3 rfl)
      · exact fun ac W hL he => stepOk_want rfl (op_load rfl (he.get 2 19 (by kernel_rfl) rfl) (ldI64 (hc3 W hL)) rfl)
      · intro ac W hL he; refine stepOk_want rfl ?_; have e0 : ac.eval (.tmp 18) = .int .i64 ed.amt := (he.get 1 18 (by kernel_rfl) rfl); have e1 : ac.eval (.tmp 20) = .int .i64 ed.exp := (he.get 3 20 (by kernel_rfl) rfl); exact op_callF (vs := #[.int .i64 ed.amt, .int .i64 ed.exp]) rfl (by simp only [List.map_toArray, List.map_cons, List.map_nil, e0, e1]) (enters_of Tryz.func22 (by kernel_rfl) rfl) (((hpd W)).mono fun e W' ⟨he', hw'⟩ => ⟨_, he', hw' ▸ Later.refl _, rfl⟩)
      · exact fun ac W hL he => stepOk_want rfl (op_not rfl (he.get 4 21 (by kernel_rfl) rfl) rfl)
      · exact fun ac W hL he => stepOk_want rfl (op_move rfl (he.get 5 22 (by kernel_rfl) rfl))
      · exact fun ac W hL he => stepOk_yes (j := 6) (t := 23) (b := false) rfl rfl (he.get 6 23 (by kernel_rfl) rfl) (op_load rfl (he.keep (.tmp 5) (by kernel_rfl)) (hl5 W hL) rfl)
      · intro ac W hL he; refine stepOk_yes (j := 6) (t := 23) (b := false) rfl rfl (he.get 6 23 (by kernel_rfl) rfl) ?_; have e0 : ac.eval (.tmp 24) = .agg (hopC ed) := (he.get 7 24 (by kernel_rfl) rfl); exact op_build (vs := #[(0, .agg (hopC ed))]) rfl (by simp only [List.map_toArray, List.map_cons, List.map_nil, e0]) (buildHopR hew W) rfl
      · intro ac W hL he; refine stepOk_yes (j := 6) (t := 23) (b := false) rfl rfl (he.get 6 23 (by kernel_rfl) rfl) ?_; have e0 : ac.eval (.tmp 25) = .agg (hopC ed) := (he.get 8 25 (by kernel_rfl) rfl); exact op_callF (vs := #[.agg (hopC ed)]) rfl (by simp only [List.map_toArray, List.map_cons, List.map_nil, e0]) (enters_of Tryz.func23 (by kernel_rfl) rfl) (((hen W)).mono fun e W' ⟨he', hb⟩ => ⟨_, he', hb, rfl⟩)
      · exact fun ac W hL he => stepOk_yes (j := 6) (t := 23) (b := false) rfl rfl (he.get 6 23 (by kernel_rfl) rfl) (op_move rfl (he.keep (.tmp 4) (by kernel_rfl)))
      · exact fun ac W hL he => stepOk_yes (j := 6) (t := 23) (b := false) rfl rfl (he.get 6 23 (by kernel_rfl) rfl) (op_move rfl (he.keep (.tmp 0) (by kernel_rfl)))
      · exact fun ac W hL he => stepOk_yes (j := 6) (t := 23) (b := false) rfl rfl (he.get 6 23 (by kernel_rfl) rfl) (op_len Tryz.underlying22 rfl (he.get 11 28 (by kernel_rfl) rfl) rfl)
      · exact fun ac W hL he => stepOk_yes (j := 6) (t := 23) (b := false) rfl rfl (he.get 6 23 (by kernel_rfl) rfl) (op_binOp rfl (he.get 12 29 (by kernel_rfl) rfl) rfl (eqg_any rfl) (subN (x := n) (y := 1) hn1 (by omega)) rfl)
      · exact fun ac W hL he => stepOk_yes (j := 6) (t := 23) (b := false) rfl rfl (he.get 6 23 (by kernel_rfl) rfl) (op_binOp rfl (he.get 10 27 (by kernel_rfl) rfl) (he.get 13 30 (by kernel_rfl) rfl) eqgI (eqDec hdd) rfl)
      · exact fun ac W hL he => stepOk_yes (j := 6) (t := 23) (b := false) rfl rfl (he.get 6 23 (by kernel_rfl) rfl) (op_binOp rfl (he.get 9 26 (by kernel_rfl) rfl) (he.get 14 31 (by kernel_rfl) rfl) eqgB (hnb W) rfl)
      · exact fun ac W hL he => stepOk_want rfl (op_pick (b := false) rfl (he.get 6 23 (by kernel_rfl) rfl) (he.get 15 32 (by kernel_rfl) rfl))
      intro xs W2 hL2 hx
      have v16 : xs 16 = .bool false := hx 16 (by decide)
      have HL2 := Lib.hid (HL.out.step hL2)
      simp only [putL, Nat.reduceAdd, Act.put, List.setIfInBounds_toArray, List.set_cons_succ, List.set_cons_zero]
      rw [v16]
      clear hx v16 hL2 hpd hen hl5 hc2 hc3 hnb hdd
      go_wp2_with fail
      go_roundw
      case rel =>
        refine ⟨k + 1, by omega, by go_num, fun i hi => ?_, HL2.out⟩
        by_cases e : i = k
        · subst e; rw [HAT2.out]; rfl
        · exact HOKS.out i (by omega)
      case measure => simp [intOf]; omega
    · obtain rfl : k = n := by omega
      have hd : decide ((k : Int) < (k : Int)) = false := decide_eq_false (by omega)
      have hd' : decide (k < k) = false := decide_eq_false (by omega)
      have hin := fun W => rin_int (k : Int) 1 6 W
      by_cases h16 : 1 ≤ k ∧ k ≤ 6
      · have hin1 : (decide ((1 : Int) ≤ (k : Int)) && decide ((k : Int) ≤ 6)) = true := by
          rw [decide_eq_true (show (1 : Int) ≤ (k : Int) by omega), decide_eq_true (show (k : Int) ≤ 6 by omega)]; rfl
        simp only [hin1] at hin
        have hall : ∀ i, i < l.length → hopFit l i = true := fun i hi => hoks i (by rw [← HN.out]; exact hi)
        have hwr : Rt.wrap l = (if 512 < (wrapL l).length then ([], 3) else (wrapL l, 0)) := wrap_yes hall (by rw [HN.out]; exact h16.1) (by rw [HN.out]; exact h16.2)
        have HALL := Lib.hid hall
        have HWR := Lib.hid hwr
        have HA := Lib.hid (hA1.later hL)
        have HL := Lib.hid hL
        clear hall hwr hoks hL hA1 hin1
        go_upto_region 11 with (first
          | (go_at_call 24; refine (hin _).mono ?_; clear hin; rintro e w7 ⟨rfl, h7⟩; obtain rfl := h7.symm)
          | fail)
        have k6 := (Row.new wr 9 #[.string ⟨#[]⟩]).alloc (.cells #[.func (.func 25) #[] #[.pointer (some ⟨wr.heap.size, 0, none⟩)]] 71)
        have k7 := Row.new (wr.alloc (.cells #[.string ⟨#[]⟩] 9)) 71 #[.func (.func 25) #[] #[.pointer (some ⟨wr.heap.size, 0, none⟩)]]
        have L3 : Later wr ((wr.alloc (.cells #[.string ⟨#[]⟩] 9)).alloc (.cells #[.func (.func 25) #[] #[.pointer (some ⟨wr.heap.size, 0, none⟩)]] 71)) := ((Later.refl wr).alloc _).alloc _
        simp only [World.size_alloc] at k7
        obtain ⟨q6, hq6⟩ : ∃ q, q = wr.heap.size := ⟨_, rfl⟩
        rw [← hq6] at k6 k7 L3 ⊢
        have hwq : w.heap.size ≤ q6 := by rw [hq6]; exact HL.out.size
        have hAb : ∀ b o, A = some ⟨b, o, none⟩ → b < q6 := fun b o e => by
          subst e
          obtain ⟨b', o', e', hc'⟩ := HA.out.at_ (k := 0) (by rw [List.length_map, HN.out]; omega)
          injection e' with e'
          injection e' with e1 e2
          subst e1
          rw [List.getElem_map] at hc'
          have hw0 := HWF.out _ (List.getElem_mem (show 0 < l.length by rw [HN.out]; omega))
          have h0 := hc' 64 (.int .i64 (l[0]'(by rw [HN.out]; omega)).amt) (by rw [Array.getElem?_toList]; exact hopC_amt hw0)
          rw [hq6]
          exact block_lt_of_cell h0
        have HQ := Lib.hid hq6
        clear hq6
        generalize hw3 : (wr.alloc (.cells #[.string ⟨#[]⟩] 9)).alloc (.cells #[.func (.func 25) #[] #[.pointer (some ⟨q6, 0, none⟩)]] 71) = w3 at *
        have hbk := backH_any A k c w3
        have LB := below_new w3 (.cells #[.slice A k c] 22)
        have kb := Row.new w3 22 #[.slice A k c]
        have k6B := k6.later LB
        have k7B := k7.later LB
        have LWB : Later w (w3.alloc (.cells #[.slice A k c] 22)) := (HL.out.step L3).step LB
        have HAB := Lib.hid ((HA.out.later L3).later LB)
        have hq7 := k7.lt
        clear hw3 k6 k7 L3 LB
        go_wp2_with (first
          | (go_at_call 27; refine hbk.mono ?_; clear hbk; rintro e w7 ⟨rfl, h7⟩; obtain rfl := h7)
          | fail)
        obtain ⟨gb, hgb⟩ : ∃ g, g = w3.heap.size := ⟨_, rfl⟩
        have hszB : (w3.alloc (.cells #[.slice A k c] 22)).heap.size = gb + 1 := by rw [World.size_alloc, hgb]
        rw [← hgb] at kb hq7 ⊢
        clear hgb
        generalize w3.alloc (.cells #[.slice A k c] 22) = WB at *
        have hseq := backH1_seq l HWF.out gb A k c WB 11 (by omega) (fun b => b = q6 ∨ b = WB.heap.size + 1) (by omega) (fun b o e => by have := hAb b o e; omega) HN.out (by omega) HAB.out kb
        have HS := Lib.hid hseq
        have HSZ := Lib.hid hszB
        have HQ7 := Lib.hid hq7
        have K6 := Lib.hid k6B
        have K7 := Lib.hid k7B
        have HLB := Lib.hid LWB
        have HWQ := Lib.hid hwq
        clear hseq hszB kb k6B k7B LWB hAb hwq hq7
        refine (wpIn_wide (n := 12)).1 ?_
        refine wpIn_name fun T0 hT0 => ?_
        refine wpIn_range_W (α := Int × Rt.Hop) (Kp := fun _ => KeepB (fun b => b = q6 ∨ b = WB.heap.size + 1)) rfl (by omega) (gf := 74) (lb := #[.pointer (some ⟨gb, 0, none⟩)]) (by rw [hT0]; rfl) trivial (enters_of Tryz.func74 (by kernel_rfl) rfl)
          HS.out (fun r h => h.elim) (fun h k => h.trans k) (fun x W o => KeepB.put W o (.inr rfl)) (Below.refl _ _) (fun _ => rfl)
          (fun pre X => pre.length ≤ k ∧ Row X q6 9 #[.string ⟨(wrapL (l.drop (k - pre.length))).toArray⟩] ∧ Row X (q6 + 1) 71 #[.func (.func 25) #[] #[.pointer (some ⟨q6, 0, none⟩)]] ∧ Same (fun b => b < WB.heap.size ∧ b ≠ q6) WB X)
          (fun c _ X => False)
          (fun pre X Y ⟨h1, h2, h3, h4⟩ hs => ⟨h1, h2.same hs ⟨by have := HSZ.out; have := HQ7.out; omega, fun h => h⟩, h3.same hs ⟨by have := HSZ.out; have := HQ7.out; omega, fun h => h⟩, h4.trans (hs.mono fun b hb => ⟨hb.1, fun h => h⟩)⟩)
          (fun c pre X Y h _ => h)
          ⟨by simp, by rw [show k - ([] : List (Int × Rt.Hop)).length = k from rfl, List.drop_of_length_le (by rw [HN.out]; exact Nat.le_refl _)]; exact K6.out, K7.out, Same.refl _ _⟩
          (fun pre x a' X => ∃ q9, a' = { tmps := (((T0.setIfInBounds 42 (.int .i64 x.1)).setIfInBounds 43 (.agg (hopC x.2))).setIfInBounds 9 (.pointer (some ⟨q9, 0, none⟩))), defers := [] } ∧ (pre.length < k ∧ x = hAt l pre.length) ∧ Row X q9 27 (hopC x.2) ∧ WB.heap.size + 2 ≤ q9)
          (fun pre x a' X o ⟨gt, h1, h2, h3, h4⟩ => ⟨gt, h1, h2, (World.putObj_heap_other (by omega)).trans h3, h4⟩) ?assign ?body ?done ?stop
        case assign =>
          intro l0 pre x X K hXs hi hok2 hK
          have hxw : x.2.wf := by rw [hok2.2]; exact hAt_wf HWF.out _
          obtain ⟨w9, hst, k9, hL9⟩ := newHop X hxw
          have HK := Lib.hid hK
          have HI := Lib.hid hi
          have HOK2 := Lib.hid hok2
          clear hK hi hok2
          have e89 : ((#[42, 43] : Array Tmp).zip (bHp x)).foldl (fun t (p, v) => t.setIfInBounds p v) T0 = (T0.setIfInBounds 42 (.int .i64 x.1)).setIfInBounds 43 (.agg (hopC x.2)) := by simp
          rw [e89, hT0]
          clear e89
          simp only [List.setIfInBounds_toArray, List.set_cons_succ, List.set_cons_zero]
          gi_wp2_with (first
            | (refine wpListIn_allocG rfl 27 rfl (allocHop _) ?_)
            | (refine wpListIn_storeG rfl 27 (.tmp 9) (.tmp 43) rfl (.pointer (some ⟨X.heap.size, 0, none⟩)) (.agg (hopC x.2)) rfl rfl hst ?_)
            | fail)
          obtain ⟨i1, i2, i3, i4⟩ := HI.out
          exact HK.out _ _ (KeepsFrom.of_later hL9) (KeepB.later hL9) ⟨i1, i2.later hL9, i3.later hL9, i4.trans ((Same.of_below hL9).mono fun b hb => by have := hb.1; omega)⟩ ⟨X.heap.size, by rw [hT0]; rfl, HOK2.out, k9, hXs⟩
        case body =>
          rintro l0 pre x' a' X hl0 hlo hXs ⟨hple, h6, h7, hS⟩ ⟨q9, rfl, ⟨hlt, hx'⟩, hr9, hq9⟩
          obtain ⟨j, hj⟩ : ∃ j, pre.length = j := ⟨_, rfl⟩
          rw [hj] at h6 hlt hx' hple
          obtain ⟨i, hij⟩ : ∃ i, i + 1 + j = k := ⟨k - 1 - j, by omega⟩
          have hil : i < l.length := by rw [HN.out]; omega
          have hxe : x' = ((i : Int), l[i]) := by
            rw [hx']
            unfold hAt
            rw [HN.out, show k - 1 - j = i by omega, getD_lt hil]
          have hge : l.getD i noHop = l[i] := getD_lt hil
          have hpd := hopFit_paid (HALL.out i hil)
          have hdr := wrapL_drop hil
          have hew := HWF.out _ (List.getElem_mem hil)
          rw [hge] at hpd hdr
          obtain ⟨ed, hed⟩ : ∃ e, l[i] = e := ⟨_, rfl⟩
          rw [hed] at hxe hpd hdr hew
          subst hxe
          have hplen : (pre ++ [((i : Int), ed)]).length = j + 1 := by rw [List.length_append, hj]; rfl
          rw [show k - j = i + 1 by omega] at h6
          obtain ⟨out, hout⟩ : ∃ x, wrapL (l.drop (i + 1)) = x := ⟨_, rfl⟩
          rw [hout] at hdr h6
          have hol : out.length ≤ 1000 := by
            have := wrapL_len (l := l.drop (i + 1)) (fun h hh => HWF.out h (List.mem_of_mem_drop hh))
            rw [hout, List.length_drop] at this
            have := HN.out
            omega
          have hc := wrapFn_any q6 ed hew hpd out hol X h6
          have hls : (Instr.loadAt 71 (.pointer (some ⟨q6 + 1, 0, none⟩))).run Tryz.prog X = .ok (.func (.func 25) #[] #[.pointer (some ⟨q6, 0, none⟩)]) X := loadWrapFn ((h7.cell 0).trans rfl)
          have hld := loadHopR hew hr9
          have HC := Lib.hid hc
          have HDR := Lib.hid hdr
          have HPL := Lib.hid hplen
          have HIJ := Lib.hid hij
          have h7l := h7.lt
          have HH7 := Lib.hid h7
          have HHS := Lib.hid hS
          have HX7 := Lib.hid h7l
          clear hc hdr hplen hge hed hx' hj h6 h7 hS hr9 hout h7l
          rw [hT0]
          simp only [List.setIfInBounds_toArray, List.set_cons_succ, List.set_cons_zero]
          gi_wp2_with (first
            | (refine wpListIn_loadG rfl 71 (.tmp 7) rfl (.pointer (some ⟨q6 + 1, 0, none⟩)) rfl hls ?_)
            | (refine wpListIn_loadG rfl 27 (.tmp 9) rfl (.pointer (some ⟨q9, 0, none⟩)) rfl hld ?_)
            | fail)
          refine ⟨trivial, (CallsIn.inRound l0 (callsIn_wide.2 HC.out)).mono ?_⟩
          rintro e W9 ⟨rfl, h69, hs9⟩
          rename_i K hK
          refine hK _ _ ?_
          clear hK
          gi_wp2_with fail
          have hq67 : q6 + 1 < WB.heap.size := by have := HSZ.out; have := HQ7.out; omega
          have hk9 : KeepB (fun b => b = q6) X W9 := ⟨hs9.size, fun b hb hd => hs9.block b ⟨hb, hd⟩⟩
          refine ⟨hk9.from_ (fun b hb => by omega), hk9.mono (fun b hb => .inl hb), by rw [HPL.out]; omega, ?_, HH7.out.same hs9 ⟨HX7.out, by omega⟩, HHS.out.trans (hs9.mono fun b hb => ⟨by have := HHS.out.size; omega, hb.2⟩)⟩
          rw [HPL.out, show k - (j + 1) = i by have := HIJ.out; omega, HDR.out]
          exact h69
        case done =>
          rintro D0 ys X hD hS ⟨h1, h6, h7, h8⟩ hK
          have hys : ys.length = k := hS
          rw [hys, Nat.sub_self, List.drop_zero] at h6
          obtain ⟨out, hout⟩ : ∃ x, wrapL l = x := ⟨_, rfl⟩
          have hwr := HWR.out
          rw [hout] at hwr h6
          have hol : out.length ≤ 1000 := by
            have := wrapL_len HWF.out
            rw [← hout]
            have := HN.out
            omega
          have hsz : (⟨out.toArray⟩ : ByteArray).size = out.length := by simp [ByteArray.size]
          have c6 : X.cell? ⟨q6, 0, none⟩ = some (.string ⟨out.toArray⟩) := (h6.cell 0).trans rfl
          have hls := ldStr c6
          have hwq := HWQ.out
          have hBX : Below w.heap.size w X := by
            have h9 : Same (fun b => b < w.heap.size) WB X := h8.mono fun b hb => ⟨by have := HLB.out.size; omega, by omega⟩
            exact ((Same.of_below HLB.out.below).trans h9).below
          have hBD : Below w.heap.size w (X.putObj D0 (.deferred none)) := hBX.trans (below_put _ _ _ _ (by have := HLB.out.size; omega) hBX.size)
          have HEND := Lib.hid hBD
          have HKD := Lib.hid hK
          clear hout h6 h7 h8 hBX hBD hK hwq hS hys
          rw [hT0]
          by_cases hbig : 512 < out.length
          · have hq : decide ((512 : Int) < (out.length : Int)) = true := decide_eq_true (by omega)
            have hq' : decide (512 < out.length) = true := decide_eq_true hbig
            rw [if_pos hbig] at hwr
            have HWR2 := Lib.hid hwr
            clear hwr
            generalize out.length = m at *
            go_wp2_with (first
              | (guard_target =~ wpList _ _ _ (_ :: _) _ _; refine wpList_load rfl 9 (.tmp 6) rfl (.pointer (some ⟨q6, 0, none⟩)) rfl hls ?_)
              | fail)
            exact leaveM HKD.out (results_tmp2 rfl _ _ _) (HΦ.out _ _ ⟨by rw [HWR2.out]; rfl, HEND.out⟩)
          · have hq : decide ((512 : Int) < (out.length : Int)) = false := decide_eq_false (by omega)
            have hq' : decide (512 < out.length) = false := decide_eq_false hbig
            rw [if_neg hbig] at hwr
            have HWR2 := Lib.hid hwr
            clear hwr
            generalize out.length = m at *
            go_wp2_with (first
              | (guard_target =~ wpList _ _ _ (_ :: _) _ _; refine wpList_load rfl 9 (.tmp 6) rfl (.pointer (some ⟨q6, 0, none⟩)) rfl hls ?_)
              | fail)
            exact leaveM HKD.out (results_tmp2 rfl _ _ _) (HΦ.out _ _ ⟨by rw [HWR2.out]; rfl, HEND.out⟩)
        case stop =>
          exact fun _ _ _ _ _ _ h _ => h.elim
      · have hin1 : (decide ((1 : Int) ≤ (k : Int)) && decide ((k : Int) ≤ 6)) = false := by
          rw [Bool.and_eq_false_iff]
          rcases Nat.lt_or_ge k 1 with h | h
          · exact .inl (decide_eq_false (by omega))
          · exact .inr (decide_eq_false (by omega))
        simp only [hin1] at hin
        have HNO : Hid (Rt.wrap l = ([], 2)) := Lib.hid (wrap_few (by rw [HN.out]; omega))
        have HLR := Lib.hid hL.below
        clear hin1 hoks hL hA1
        go_wp2_with (first
          | (go_at_call 24; refine (hin _).mono ?_; clear hin; rintro e w7 ⟨rfl, h7⟩; obtain rfl := h7.symm)
          | fail)
        exact retM (results_tmp2 rfl _ _ _) (HΦ.out _ _ ⟨by rw [HNO.out]; rfl, HLR.out⟩)
end Go.Proofs.YtloiaaolnfimgaaGreat
namespace Go.Proofs.YtloiaaolnfimgaaGreat
open Go.RowKit Rt
theorem run_append_none {P : Program} (w : World) (base : Nat) (t ty U : TypeId) (z : Nat) (i : TypeInfo) (ht : P.underlying t = some (.slice U)) (hi : P.info? U = some i) (v : Value) (n : Nat) (xs : List Value) (hown : w.ownsRow base U z v n xs) (c : Nat) :
    (Builtin.append_ #[t, t] ty #[v, .slice none 0 c]).run P w = .ok v w := by
  rcases hown.2 with ⟨rfl, hn⟩ | ⟨g, cap, cur, rfl, _, _, hnc, _⟩
  · simp [Builtin.append_, run_underlying ht, sizeOf, typeInfo, hi, Builtin.lenOf, Builtin.firstCells]
  · simp [Builtin.append_, run_underlying ht, sizeOf, typeInfo, hi, Builtin.lenOf, Builtin.firstCells, hnc, storeCells]
theorem wpList_append_ga {T U : TypeId} {z bytes : Nat} {zv : Value} (hU : Tryz.prog.underlying T = some (.slice U)) (hI : (Tryz.prog.info? U).map (fun i => (i.zero, i.size, i.bytes)) = some (some zv, z, bytes)) (hzv : zv.cells.size = z) (hz0 : 0 < z) (hby : bytes ≤ 100000)
    {w : World} {ops : Array Oper} {rest : List Oper} {o : Oper} {a : Act} {Q : Exit → Act → World → Prop} (hgd : o.guard = none) (s x : Operand)
    (ho : o.op = .call { callee := .builtin .append, args := #[s, x], argTypes := #[T, T] })
    (base : Nat) (v : Value) (ls : List (List Value)) (hs : a.eval s = v) (hown : OwnG U z w base v ls) (A : Option Addr) (m c : Nat) (ks : List (List Value)) (hk : ∀ l ∈ ks, l.length = z ∧ ∀ u ∈ l, u.oneCell' = true) (hx : a.eval x = .slice A m c) (hm : ks.length = m) (hr : Recs z w A ks)
    (hl : ls.length + m ≤ 1000000000) (hbase : base ≤ w.heap.size)
    (h : ∀ v' w', OwnG U z w' base v' (ls ++ ks) → w.grownBy w' v.ownBlock → (v'.ownBlock = v.ownBlock ∨ v'.ownBlock = some w.heap.size) → wpList Tryz.prog ops Q rest (a.put o.dst v') w') : wpList Tryz.prog ops Q (o :: rest) a w := by
  by_cases hne : ks = []
  · subst hne
    subst hm
    obtain ⟨i, hi, he⟩ := Option.map_eq_some_iff.1 hI
    injection he with hz he
    injection he with hsz hby'
    refine wpList_plain hgd fun _ hK => ?_
    have hl0 : ls.length + 0 ≤ 1000000000 := hl
    have hml : ls.length + 0 ≤ maxLen := Nat.le_trans hl0 (by decide)
    have hmb : (ls.length + 0) * bytes ≤ 140737488355328 := Nat.le_trans (Nat.mul_le_mul hl0 hby) (by decide)
    have key : ∃ v' w', (Builtin.append_ #[T, T] o.type #[v, .slice A 0 c]).run Tryz.prog w = .ok v' w' ∧ OwnG U z w' base v' (ls ++ []) ∧ w.grownBy w' v.ownBlock ∧ (v'.ownBlock = v.ownBlock ∨ v'.ownBlock = some w.heap.size) := by
      rcases A with _ | ad
      · exact ⟨v, w, run_append_none w base T o.type U z i hU hi v _ _ hown.2 c, by rw [List.append_nil]; exact hown, World.grownBy.refl _ _, .inl rfl⟩
      · obtain ⟨v', w', h1, h2, h3, _, h5⟩ := run_append_own_at (P := Tryz.prog) w base T o.type U i _ z bytes hU hi hz hsz hby' hzv hz0 v ls.length ls.flatten hown.2 ad 0 c [] (by simp) (fun j u hu => by simp at hu) (fun u hu => by simp at hu) hml hmb hbase
        exact ⟨v', w', h1, by rw [List.append_nil]; exact ⟨hown.1, by simpa using h2⟩, h3, h5⟩
    obtain ⟨v', w', hr', h2, h3, h4⟩ := key
    unfold Oper.wp execOp
    simp only [ho, resolve, invoke, builtin, Sem.run_bind, Sem.run_pure, Result.andThen_ok, List.map_toArray, List.map_cons, List.map_nil, hs, hx, List.length_nil, hr']
    exact hK _ _ (h v' w' h2 h3 h4)
  · exact wpList_append_g hU hI hzv hz0 hby hgd s x ho base v ls hs hown A m c ks hk hx hm hr hne hl hbase h
end Go.Proofs.YtloiaaolnfimgaaGreat
namespace Go.Proofs.YtloiaaolnfimgaaGreat
open Go.RowKit Rt
section
variable {P : Program} {ops : Array Oper} {rest : List Oper} {o : Oper} {a : Act} {w : World} {Q : Exit → Act → World → Prop}
theorem wpList_sliceH (hgd : o.guard = none) (T : TypeId) (x h : Operand) (ho : o.op = .slice T x none (some h) none) (vx vh : Value) (hx : a.eval x = vx) (hh : a.eval h = vh) {v : Value} {w' : World} (hr : (Instr.sliceAt T vx none (some vh) none).run P w = .ok v w')
    (hk : wpList P ops Q rest (a.put o.dst v) w') : wpList P ops Q (o :: rest) a w :=
  wpList_plain hgd fun _ hK => by
    unfold Oper.wp execOp
    simp only [ho, Sem.run_bind, Sem.run_pure, Result.andThen_ok, Option.map_none, Option.map_some, hx, hh, hr]
    exact hK _ _ hk
end
end Go.Proofs.YtloiaaolnfimgaaGreat
namespace Go.Proofs.YtloiaaolnfimgaaGreat
open Go.RowKit Rt
theorem eqStrMe2 (a : ByteArray) (w : World) : (binOp .eql 9 (.string a) (.string a)).run Tryz.prog w = .ok (.bool true) w := by
  go_simp
theorem eqIntMe2 (a : Int) (w : World) : (binOp .eql 3 (.int .i64 a) (.int .i64 a)).run Tryz.prog w = .ok (.bool true) w := by
  have h : (binOp .eql 3 (.int .i64 a) (.int .i64 a)).run Tryz.prog w = .ok (.bool (a == a)) w := by kernel_rfl
  rw [h]
  congr 2
  simp
end Go.Proofs.YtloiaaolnfimgaaGreat
namespace Go.Proofs.YtloiaaolnfimgaaGreat
open Go.RowKit Rt
def hop77 : Hop := ⟨zh, zh, 77, 0⟩
theorem hop77_wf : hop77.wf := ⟨zh_len, zh_len⟩
theorem build77p (w : World) : (Instr.build 27 #[(2, .int .i64 77)]).run Tryz.prog w = .ok (.agg (hopC hop77)) w := by kernel_rfl
theorem buildP0 (w : World) : (Instr.buildSlice 22 0 #[]).run Tryz.prog w = .ok (.slice (some ⟨w.heap.size, 0, none⟩) 0 0) (w.alloc (.cells #[] 27)) := by kernel_rfl
theorem buildP1 (w : World) : (Instr.buildSlice 22 1 #[(0, .agg (hopC hop77))]).run Tryz.prog w = .ok (.slice (some ⟨w.heap.size, 0, none⟩) 1 1) (w.alloc (.cells (hopC hop77) 27)) := buildHops1 hop77_wf w
theorem InHops.later {w w' : World} {A : Option Addr} {n c : Nat} {l : List Hop} (h : InHops w A n c l) (hL : Later w w') : InHops w' A n c l := ⟨h.len, h.cap, h.most, h.wf, h.rd.later hL⟩
set_option maxRecDepth 100000 in
theorem run_slice_p {b o n ca k : Nat} (h2 : k ≤ ca) (w : World) : (Instr.sliceAt 22 (.slice (some ⟨b, o, none⟩) n ca) none (some (.int .i64 (k : Int))) none).run Tryz.prog w = .ok (.slice (some ⟨b, o, none⟩) k ca) w := by
  obtain ⟨i, hi0, hq⟩ := Option.map_eq_some_iff.1 infoHopG
  injection hq with _ hq
  injection hq with hs _
  have he : Tryz.prog.elem 22 = 27 := by simp [Program.elem, Tryz.underlying22]
  have ht' : Tryz.prog.underlying 22 = some (.slice (Tryz.prog.elem 22)) := by rw [he]; exact Tryz.underlying22
  rw [run_sliceAt_slice w _ _ _ _ _ ht', run_slice_h w _ _ n ca ht' .i64 (k : Int) (by omega) (by omega), he]
  have hz : ∀ x : Addr, x.add 0 = x := fun x => by simp [Addr.add]
  simp [sizeOf, typeInfo, hi0, hs, sliced, hz]
theorem run_slice_p2 {b o n ca k : Nat} (h2 : k ≤ ca) (w : World) : (Instr.slice 22 (.slice (some ⟨b, o, none⟩) n ca) none (some (.int .i64 (k : Int))) none).run Tryz.prog w = .ok (.slice (some ⟨b, o, none⟩) k ca) w := by
  have he : Tryz.prog.elem 22 = 27 := by simp [Program.elem, Tryz.underlying22]
  have ht' : Tryz.prog.underlying 22 = some (.slice (Tryz.prog.elem 22)) := by rw [he]; exact Tryz.underlying22
  rw [← run_sliceAt_slice w _ _ _ _ _ ht']
  exact run_slice_p h2 w
set_option maxRecDepth 100000 in
set_option maxHeartbeats 4000000 in
theorem routeWraps_walk (A : Option Addr) (n c : Nat) (l : List Hop) (w : World) (hi : InHops w A n c l) :
    Calls Tryz.prog 3 #[.slice A n c] w fun e w' => e = .returned (.bool true) ∧ Below w.heap.size w w' := by
  refine Calls.post fun Φ HΦ => ?_
  have hwk := fun W => works_yes W
  have HIN := Lib.hid hi
  obtain ⟨hn, hnc, hcm, hl, hA⟩ := hi
  by_cases hbig : 10 < n
  · have hd : decide ((n : Int) > 10) = true := decide_eq_true (by omega)
    have hd2 : decide (10 < n) = true := decide_eq_true hbig
    go_enter Tryz.func3, Tryz.ntmps3
    go_wp2_with (first
      | (go_at_call 8; refine (hwk _).mono ?_; rintro e w1 ⟨rfl, h1⟩)
      | fail)
    exact HΦ.out _ _ ⟨rfl, h1⟩
  have hd : decide ((n : Int) > 10) = false := decide_eq_false (by omega)
  have hd2 : decide (10 < n) = false := decide_eq_false hbig
  have HL := Lib.hid hl
  have HN := Lib.hid hn
  have own0 : OwnG 27 66 (w.alloc (.cells #[] 27)) w.heap.size (.slice (some ⟨w.heap.size, 0, none⟩) 0 0) [] := OwnG.row (Row.new w 27 #[]) (by simp) rfl (Nat.le_refl _) (Nat.zero_le _)
  have L1 : Later w (w.alloc (.cells #[] 27)) := below_new w _
  have hA1 := hA.later L1
  have hln : (l.map hopL).length = n := by rw [List.length_map, HN.out]
  have hle : ([] : List (List Value)).length + n ≤ 1000000000 := by simp; omega
  have hle2 : ([] ++ l.map hopL).length + 1 ≤ 1000000000 := by rw [List.nil_append, hln]; omega
  have hsz1 := Later.size L1
  clear hn hl
  go_enter Tryz.func3, Tryz.ntmps3
  go_upto_region 4 with (first
    | (guard_target =~ wpList _ _ _ (_ :: _) _ _; refine wpList_buildSl rfl 22 0 _ rfl #[] rfl (buildP0 _) ?_)
    | (guard_target =~ wpList _ _ _ (_ :: _) _ _; refine wpList_append_ga Tryz.underlying22 infoHopG (hopC_size noHop_wf) (by decide) (by decide) rfl (.tmp 13) (.tmp 14) rfl w.heap.size _ _ rfl own0 A n c (l.map hopL) (fun u hu => by obtain ⟨e, he, rfl⟩ := List.mem_map.1 hu; exact hopL_ok (HL.out _ he)) rfl hln hA1 hle hsz1 fun v2 w2 own2 g2 _ => ?_; have L2 : Later w w2 := Below.grown L1 g2 (Later.size L1) (fun j e => (own0.at_ j e).1); have L3 : Later w2 (w2.alloc (.cells (hopC hop77) 27)) := below_new w2 _; have own3 := own2.later L3; have L23 := L2.step L3; have hrec3 : Recs 66 (w2.alloc (.cells (hopC hop77) 27)) (some ⟨w2.heap.size, 0, none⟩) [hopL hop77] := Recs.row (Row.new w2 27 _) (fun l hl => by rw [List.mem_singleton.1 hl]; exact hopL_len hop77_wf) (fun j v hv => by simpa [hopL] using hv); have hsz3 := Later.size L23)
    | (guard_target =~ wpList _ _ _ (_ :: _) _ _; refine wpList_build rfl 27 _ rfl #[(2, .int .i64 77)] (by simp only [List.map_toArray, List.map_cons, List.map_nil]; rfl) (build77p _) ?_; simp only [Act.put, List.setIfInBounds_toArray, List.set_cons_zero, List.set_cons_succ])
    | (guard_target =~ wpList _ _ _ (_ :: _) _ _; refine wpList_buildSl rfl 22 1 #[(0, .tmp 16)] rfl #[(0, .agg (hopC hop77))] (by simp only [List.map_toArray, List.map_cons, List.map_nil]; rfl) (buildP1 _) ?_)
    | (guard_target =~ wpList _ _ _ (_ :: _) _ _; refine wpList_append_ga Tryz.underlying22 infoHopG (hopC_size noHop_wf) (by decide) (by decide) rfl (.tmp 15) (.tmp 17) rfl w.heap.size _ _ rfl own3 (some ⟨w2.heap.size, 0, none⟩) 1 1 [hopL hop77] (fun l hl => List.mem_singleton.1 hl ▸ hopL_ok hop77_wf) rfl rfl hrec3 hle2 hsz3 fun v4 w4 own4 g4 _ => ?_; have L4 : Later w w4 := Below.grown L23 g4 (Later.size L23) (fun j e => (own3.at_ j e).1); obtain ⟨M, cM, rfl, hcM, hcMm, hrM⟩ := own4.slice; have hl4 : (([] ++ l.map hopL) ++ [hopL hop77]).length = n + 1 := (by simp [HN.out]); rw [hl4] at hcM ⊢; obtain ⟨bM, oM, rfl, hcell⟩ := hrM (by simp))
    | (guard_target =~ wpList _ _ _ (_ :: _) _ _; refine wpList_sliceH rfl 22 (.tmp 18) (.tmp 20) rfl (.slice (some ⟨bM, oM, none⟩) (n + 1) cM) (.int .i64 (n : Int)) rfl rfl (run_slice_p (by omega) _) ?_)
    | fail)
  have hrange : ∀ (i : Nat) (hi : i < l.length), w4.rangeAt bM (oM + i * 66) (hopL l[i]) := fun i hi => by
    have h := hcell i (by simp; omega)
    have e : (([] ++ l.map hopL) ++ [hopL hop77])[i]'(by simp; omega) = hopL l[i] := by
      simp only [List.nil_append]
      rw [List.getElem_append_left (by simpa using hi), List.getElem_map]
    rw [e] at h
    exact h
  have hlast : w4.rangeAt bM (oM + n * 66) (hopL hop77) := by
    have h := hcell n (by rw [hl4]; omega)
    have e : (([] ++ l.map hopL) ++ [hopL hop77])[n]'(by rw [hl4]; omega) = hopL hop77 := by
      simp only [List.nil_append]
      rw [List.getElem_append_right (by rw [hln]; exact Nat.le_refl _)]
      simp [HN.out]
    rw [e] at h
    exact h
  have hM4 : Recs 66 w4 (some ⟨bM, oM, none⟩) (l.map hopL) := fun _ => ⟨bM, oM, rfl, fun i hi => by rw [List.getElem_map]; exact hrange i (by simpa using hi)⟩
  have hPl := rwrap_any l (some ⟨bM, oM, none⟩) n cM w4 ⟨HN.out, by omega, hcMm, HL.out, hM4⟩ (by omega)
  have hRf := fun W (h : Later w W) => refWrap_any l A n c W (HIN.out.later h) (by omega)
  obtain ⟨p0, hp0⟩ : ∃ p, Rt.wrap l = p := ⟨_, rfl⟩
  obtain ⟨S, er⟩ := p0
  rw [hp0] at hPl
  simp only [hp0] at hRf
  simp only at hPl hRf
  have L4' : Later w w4 := L4
  clear own0 own2 own3 own4 hrM hcell hrec3 hA1 L1 L2 L3 L23 g2 g4 hp0 hle hle2 hsz1 hsz3 hl4 L4 hM4
  go_upto_region 5 with (first
    | (go_at_call 9; refine hPl.mono ?_; clear hPl; rintro e w5 ⟨rfl, L5⟩)
    | fail)
  have L45 : Later w4 w5 := L5
  have L05 : Later w w5 := L4'.step L45
  have hR5 := hRf w5 L05
  clear hRf L5
  go_upto_region 6 with (first
    | (go_at_call 10; refine hR5.mono ?_; clear hR5; rintro e w6 ⟨rfl, L6⟩)
    | fail)
  have L46 : Later w4 w6 := L45.step L6
  have L06 : Later w w6 := L05.step L6
  have HW := Lib.hid hwk
  clear L45 L05 L6 hwk L4'
  go_wp2_with fail
  go_loopw [8] (fun t wr => ∃ p : Nat, p ≤ n ∧ t = .int .i64 (p : Int) ∧ Later w6 wr) (fun t _ => n - (intOf t).toNat)
  case atStart => exact ⟨0, by omega, rfl, Later.refl _⟩
  case round =>
    obtain ⟨j, hj, rfl, hLr⟩ := hrel
    by_cases hlt : j < n
    · have hd : decide ((j : Int) < (n : Int)) = true := decide_eq_true (by omega)
      have hd' : decide (j < n) = true := decide_eq_true hlt
      have hps : j < l.length := by rw [HN.out]; exact hlt
      obtain ⟨bA, oA, rfl, r5⟩ := (hA.later (L06.step hLr)).at_ (k := j) (by simpa using hps)
      rw [List.getElem_map] at r5
      have r7 := range_later (hrange j hps) (L46.step hLr)
      have hwp := HL.out _ (List.getElem_mem hps)
      go_upto_region 9 with fail
      refine wp_region_list [Pr.eq (.slice (some ⟨bM, oM, none⟩) n cM), Pr.eq (.int .i64 (j : Int)), Pr.eq (.pointer (some ⟨bM, oM + j * 66, none⟩)), Pr.eq (.agg (hopC l[j])), Pr.eq (.slice (some ⟨bA, oA, none⟩) n c), Pr.eq (.int .i64 (j : Int)), Pr.eq (.pointer (some ⟨bA, oA + j * 66, none⟩)), Pr.eq (.agg (hopC l[j])), Pr.eq (.bool false)] (by kernel_rfl) (by kernel_rfl) (by kernel_rfl) (by kernel_rfl) ⟨?_, ?_, ?_, ?_, ?_, ?_, ?_, ?_, ?_, trivial⟩ ?_
      · exact fun ac W hL he => stepOk_want rfl (op_move rfl (he.keep (.tmp 3) (by kernel_rfl)))
      · exact fun ac W hL he => stepOk_want rfl (op_move rfl (he.keep (.tmp 8) (by kernel_rfl)))
      · exact fun ac W hL he => stepOk_want rfl (op_idx rfl (he.get 0 38 (by kernel_rfl) rfl) (he.get 1 39 (by kernel_rfl) rfl) (idxHop W hlt) rfl)
      · exact fun ac W hL he => stepOk_want rfl (op_load rfl (he.get 2 40 (by kernel_rfl) rfl) (loadHopM hwp (range_later r7 hL)) rfl)
      · exact fun ac W hL he => stepOk_want rfl (op_move rfl (he.keep (.tmp 0) (by kernel_rfl)))
      · exact fun ac W hL he => stepOk_want rfl (op_move rfl (he.keep (.tmp 8) (by kernel_rfl)))
      · exact fun ac W hL he => stepOk_want rfl (op_idx rfl (he.get 4 42 (by kernel_rfl) rfl) (he.get 5 43 (by kernel_rfl) rfl) (idxHop W hlt) rfl)
      · exact fun ac W hL he => stepOk_want rfl (op_load rfl (he.get 6 44 (by kernel_rfl) rfl) (loadHopM hwp (range_later r5 hL)) rfl)
      · exact fun ac W hL he => stepOk_want rfl (op_binOp rfl (he.get 3 41 (by kernel_rfl) rfl) (he.get 7 45 (by kernel_rfl) rfl) (eqgHop _ _ _ _ _ _) (neqHopMe hwp _) rfl)
      intro xs2 W2 hL2 hx
      have v8 : xs2 8 = .bool false := hx 8 (by decide)
      simp only [putL, Nat.reduceAdd, Act.put, List.setIfInBounds_toArray, List.set_cons_succ, List.set_cons_zero]
      rw [v8]
      clear hx v8
      go_wp2_with fail
      go_roundw
      case rel => exact ⟨j + 1, by omega, by go_num, hLr.step hL2⟩
      case measure => simp [intOf]; omega
    · obtain rfl : j = n := by omega
      have hd : decide ((j : Int) < (j : Int)) = false := decide_eq_false (by omega)
      have hd' : decide (j < j) = false := decide_eq_false (by omega)
      have c77 := range_later hlast (L46.step hLr) 64 (.int .i64 77) (by rw [Array.getElem?_toList]; exact hopC_amt hop77_wf)
      have L0F : Later w wr := L06.step hLr
      have hj10 : j ≤ 10 := by omega
      go_upto_region 11 with fail
      refine wp_region_seqL [Pr.eq (.string ⟨S.toArray⟩), Pr.eq (.string ⟨S.toArray⟩), Pr.eq (.bool true), Pr.eq (.bool true), Pr.eq (.int .i64 er), Pr.eq (.int .i64 er), Pr.eq (.int .i64 er), Pr.eq (.bool true), Pr.eq (.bool true), Pr.eq (.bool true), Pr.eq (.slice (some ⟨bM, oM, none⟩) j cM), Pr.eq (.slice A j c), Pr.eq (.int .i64 (j : Int)), Pr.eq (.int .i64 ((j + 1 : Nat) : Int)), Pr.eq (.slice (some ⟨bM, oM, none⟩) (j + 1) cM), Pr.eq (.slice A j c), Pr.eq (.int .i64 (j : Int)), Pr.eq (.pointer (some ⟨bM, oM + j * 66, none⟩)), Pr.eq (.pointer (some ⟨bM, oM + j * 66 + 64, none⟩)), Pr.eq (.int .i64 77), Pr.eq (.bool true), Pr.eq (.bool true), Pr.eq (.bool true), Pr.eq (.bool true), Pr.eq (.bool true), Pr.eq (.bool true)] (by kernel_rfl) (by kernel_rfl) (by kernel_rfl) ⟨?_, ?_, ?_, ?_, ?_, ?_, ?_, ?_, ?_, ?_, ?_, ?_, ?_, ?_, ?_, ?_, ?_, ?_, ?_, ?_, ?_, ?_, ?_, ?_, ?_, ?_, trivial⟩ ?_
      · exact fun ac W hL he => stepOk_want rfl (op_move rfl (he.keep (.tmp 4) (by kernel_rfl)))
      · exact fun ac W hL he => stepOk_want rfl (op_move rfl (he.keep (.tmp 6) (by kernel_rfl)))
      · exact fun ac W hL he => stepOk_want rfl (op_binOp rfl (he.get 0 47 (by kernel_rfl) rfl) (he.get 1 48 (by kernel_rfl) rfl) eqgS (eqStrMe2 _ W) rfl)
      · exact fun ac W hL he => stepOk_want rfl (op_move rfl (he.get 2 49 (by kernel_rfl) rfl))
      · exact fun ac W hL he => stepOk_yes (j := 3) (t := 50) (b := true) rfl rfl (he.get 3 50 (by kernel_rfl) rfl) (op_move rfl (he.keep (.tmp 5) (by kernel_rfl)))
      · intro ac W hL he; refine stepOk_yes (j := 3) (t := 50) (b := true) rfl rfl (he.get 3 50 (by kernel_rfl) rfl) ?_; have e0 : ac.eval (.tmp 51) = .int .i64 er := (he.get 4 51 (by kernel_rfl) rfl); exact op_callF (vs := #[.int .i64 er]) rfl (by simp only [List.map_toArray, List.map_cons, List.map_nil, e0]) (enters_of Tryz.func11 (by kernel_rfl) rfl) (((rnum_any er W)).mono fun e W' ⟨he', hw'⟩ => ⟨_, he', hw' ▸ Later.refl _, rfl⟩)
      · exact fun ac W hL he => stepOk_yes (j := 3) (t := 50) (b := true) rfl rfl (he.get 3 50 (by kernel_rfl) rfl) (op_move rfl (he.keep (.tmp 7) (by kernel_rfl)))
      · exact fun ac W hL he => stepOk_yes (j := 3) (t := 50) (b := true) rfl rfl (he.get 3 50 (by kernel_rfl) rfl) (op_binOp rfl (he.get 5 52 (by kernel_rfl) rfl) (he.get 6 53 (by kernel_rfl) rfl) eqgI (eqIntMe2 er W) rfl)
      · exact fun ac W hL he => stepOk_want rfl (op_pick (b := true) rfl (he.get 3 50 (by kernel_rfl) rfl) (he.get 7 54 (by kernel_rfl) rfl))
      · exact fun ac W hL he => stepOk_want rfl (op_move rfl (he.get 8 55 (by kernel_rfl) rfl))
      · exact fun ac W hL he => stepOk_yes (j := 9) (t := 56) (b := true) rfl rfl (he.get 9 56 (by kernel_rfl) rfl) (op_move rfl (he.keep (.tmp 3) (by kernel_rfl)))
      · exact fun ac W hL he => stepOk_yes (j := 9) (t := 56) (b := true) rfl rfl (he.get 9 56 (by kernel_rfl) rfl) (op_move rfl (he.keep (.tmp 0) (by kernel_rfl)))
      · exact fun ac W hL he => stepOk_yes (j := 9) (t := 56) (b := true) rfl rfl (he.get 9 56 (by kernel_rfl) rfl) (op_len Tryz.underlying22 rfl (he.get 11 58 (by kernel_rfl) rfl) rfl)
      · exact fun ac W hL he => stepOk_yes (j := 9) (t := 56) (b := true) rfl rfl (he.get 9 56 (by kernel_rfl) rfl) (op_binOp rfl (he.get 12 59 (by kernel_rfl) rfl) rfl (eqg_any rfl) (addInt j (by omega) _ W) rfl)
      · exact fun ac W hL he => stepOk_yes (j := 9) (t := 56) (b := true) rfl rfl (he.get 9 56 (by kernel_rfl) rfl) (op_slice (W' := W) rfl (he.get 10 57 (by kernel_rfl) rfl) (rfl : _ = none) (congrArg some (he.get 13 60 (by kernel_rfl) rfl)) rfl (run_slice_p2 hcM W) rfl)
      · exact fun ac W hL he => stepOk_yes (j := 9) (t := 56) (b := true) rfl rfl (he.get 9 56 (by kernel_rfl) rfl) (op_move rfl (he.keep (.tmp 0) (by kernel_rfl)))
      · exact fun ac W hL he => stepOk_yes (j := 9) (t := 56) (b := true) rfl rfl (he.get 9 56 (by kernel_rfl) rfl) (op_len Tryz.underlying22 rfl (he.get 15 62 (by kernel_rfl) rfl) rfl)
      · exact fun ac W hL he => stepOk_yes (j := 9) (t := 56) (b := true) rfl rfl (he.get 9 56 (by kernel_rfl) rfl) (op_idx rfl (he.get 14 61 (by kernel_rfl) rfl) (he.get 16 63 (by kernel_rfl) rfl) (idxHop W (by omega)) rfl)
      · exact fun ac W hL he => stepOk_yes (j := 9) (t := 56) (b := true) rfl rfl (he.get 9 56 (by kernel_rfl) rfl) (op_fieldAddr rfl (he.get 17 64 (by kernel_rfl) rfl) fHop2 rfl)
      · exact fun ac W hL he => stepOk_yes (j := 9) (t := 56) (b := true) rfl rfl (he.get 9 56 (by kernel_rfl) rfl) (op_load rfl (he.get 18 65 (by kernel_rfl) rfl) (ldI64 (Later.cell hL c77)) rfl)
      · exact fun ac W hL he => stepOk_yes (j := 9) (t := 56) (b := true) rfl rfl (he.get 9 56 (by kernel_rfl) rfl) (op_binOp rfl (he.get 19 66 (by kernel_rfl) rfl) rfl (by kernel_rfl) (by kernel_rfl) rfl)
      · exact fun ac W hL he => stepOk_want rfl (op_pick (b := true) rfl (he.get 9 56 (by kernel_rfl) rfl) (he.get 20 67 (by kernel_rfl) rfl))
      · exact fun ac W hL he => stepOk_want rfl (op_move rfl (he.get 21 68 (by kernel_rfl) rfl))
      · intro ac W hL he; refine stepOk_yes (j := 22) (t := 69) (b := true) rfl rfl (he.get 22 69 (by kernel_rfl) rfl) ?_; exact op_callF (vs := #[]) rfl (by simp) (enters_of Tryz.func8 (by kernel_rfl) rfl) (((HW.out W)).mono fun e W' ⟨he', hb⟩ => ⟨_, he', hb, rfl⟩)
      · exact fun ac W hL he => stepOk_want rfl (op_pick (b := true) rfl (he.get 22 69 (by kernel_rfl) rfl) (he.get 23 70 (by kernel_rfl) rfl))
      · exact fun ac W hL he => stepOk_want rfl (op_assign rfl (he.get 24 71 (by kernel_rfl) rfl))
      intro xs2 W2 hL2 hx
      have v25 : xs2 25 = .bool true := hx 25 (by decide)
      simp only [putL, Nat.reduceAdd, Act.put, List.setIfInBounds_toArray, List.set_cons_succ, List.set_cons_zero]
      rw [v25]
      clear hx v25
      go_wp2_with fail
      exact HΦ.out _ _ ⟨rfl, L0F.step hL2⟩
end Go.Proofs.YtloiaaolnfimgaaGreat
