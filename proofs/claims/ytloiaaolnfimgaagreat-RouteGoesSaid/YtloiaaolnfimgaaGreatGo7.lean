/- Joined texts: Rwy Rg1 Rg2 Rg3 Rg4 Rg5 Rg6 Rg7 Rg8 Rg9 Rg10. -/
import Derived.Test.YtloiaaolnfimgaaGreatGo6
set_option linter.unusedVariables false
set_option linter.unusedSimpArgs false
set_option maxRecDepth 100000
set_option maxHeartbeats 32000000
namespace Go.Proofs.YtloiaaolnfimgaaGreat
open Go.ChangeShapes Go.WideShapes Go.ChangeAt Go.RowKit
theorem Wrote.trans {w w1 w2 : World} {g : Nat} {r r1 r2 : Option Nat} (h : Wrote w w1 g r r1) (k : Wrote w1 w2 g r1 r2) : Wrote w w2 g r r2 := by
  refine ⟨h.1.trans (k.1.mono fun j hj => ⟨Nat.lt_of_lt_of_le hj.1 h.1.size, hj.2.1, fun e => ?_⟩), fun i hi => ?_⟩
  · rcases h.2 j e.symm with e1 | e1
    · exact hj.2.2 e1.symm
    · have := hj.1
      omega
  · rcases k.2 i hi with e | e
    · exact h.2 i e
    · exact .inr (Nat.le_trans h.1.size e)
theorem hC_first (h : List UInt8) : ∃ v, (hC h).toList[0]? = some v := by
  unfold hC Sha.zeros
  rcases h with _ | ⟨x, h⟩ <;> simp
theorem RdH.keep {w w' : World} {A : Option Addr} {hs : List (List UInt8)} (h : RdH w A hs) (hk : ∀ b, (∃ o, A = some ⟨b, o, none⟩) → hs ≠ [] → b < w.heap.size → w'.heap[b]? = w.heap[b]?) : RdH w' A hs := fun hl => by
  obtain ⟨b, o, e, hc⟩ := h hl
  have h0 : 0 < hs.length := List.length_pos_iff.2 hl
  obtain ⟨v, hv⟩ := hC_first hs[0]
  have hb : b < w.heap.size := block_lt_of_cell (hc 0 h0 0 v hv)
  exact ⟨b, o, e, fun i hi j v hv => (World.cell?_of_block (w := w) (a := ⟨b, o + i * 32 + j, none⟩) (hk b ⟨o, e⟩ hl hb)).trans (hc i hi j v hv)⟩
theorem RdH.same {p : Nat → Prop} {w w' : World} {A : Option Addr} {hs : List (List UInt8)} (h : RdH w A hs) (hs' : Same p w w') (hp : ∀ b o, A = some ⟨b, o, none⟩ → hs ≠ [] → b < w.heap.size → p b) : RdH w' A hs := h.keep fun b ⟨o, e⟩ hl hb => hs'.block b (hp b o e hl hb)
theorem Grew.later {w w1 w2 : World} {v v' : Value} (h : Grew w w1 v v') (k : Later w1 w2) : Grew w w2 v v' := ⟨⟨k.os.trans h.1.os, k.tape.trans h.1.tape, k.output.trans h.1.output, Nat.le_trans h.1.size k.size, fun i hi hn => (k.block i (Nat.lt_of_lt_of_le hi h.1.size)).trans (h.1.block i hi hn)⟩, h.2⟩
theorem IsWr.lt {w : World} {g : Nat} {r : Option Nat} {l : List UInt8} (h : IsWr w g r l) : g < w.heap.size ∧ ∀ k, r = some k → k < w.heap.size := by
  obtain ⟨v, h1, h2, h3, h4⟩ := h
  exact ⟨h1.lt, fun k e => (h2.at_ k (h3.trans e)).2⟩
theorem IsWr.later {w w' : World} {g : Nat} {r : Option Nat} {l : List UInt8} (h : IsWr w g r l) (hL : Later w w') : IsWr w' g r l := by
  obtain ⟨v, h1, h2, h3, h4⟩ := h
  exact ⟨v, h1.later hL, h2.later hL, h3, h4⟩
theorem addr_none {w : World} {x : Addr} {v : Value} (h : w.cell? x = some v) : x = ⟨x.block, x.off, none⟩ := by
 rcases x with ⟨b, o, s⟩
 rcases s with _ | s
 ·rfl
 ·exfalso
  unfold World.cell? at h
  simp only [Option.isSome_some, if_true] at h
  split at h <;> cases h
end Go.Proofs.YtloiaaolnfimgaaGreat
namespace Go.Proofs.YtloiaaolnfimgaaGreat
open Go.RowKit
theorem wr_step {w w1 : World} {g : Nat} {v v' : Value} {l' : List UInt8} (hrow : Row w g 169 #[v, .bool true]) (hne : v.ownBlock ≠ some g) (hown : Own 5 w1 0 v' l') (hg : Grew w w1 v v') :
  IsWr (w1.setCell ⟨g, 0, none⟩ v') g v'.ownBlock l' /\ Wrote w (w1.setCell ⟨g, 0, none⟩ v') g v.ownBlock v'.ownBlock := by
 have hlt := hrow.lt
 have hne' : v'.ownBlock ≠ some g := fun e => by
  rcases hg.2 g e with h | h
  ·exact hne h
  ·omega
 have hrow1 := hrow.grown hg.1 (fun e => hne e.symm)
 refine ⟨⟨v', hrow1.set 0 v', hown.keep fun b hb e => heap_setCell_other w1 ⟨g, 0, none⟩ b v' (fun e2 => hne' (by rw [e]; exact congrArg some e2)), rfl, hne'⟩, ?_, hg.2⟩
 exact ((Same.of_grown hg.1).mono fun j hj => ⟨hj.1, hj.2.2⟩).trans ((Same.set w1 ⟨g, 0, none⟩ v').mono fun j hj => hj.2.1)
theorem wnew_any (w : World) : Calls Tryz.prog 54 #[] w fun e w' => e = .returned (.pointer (some ⟨w.heap.size, 0, none⟩)) /\ IsWr w' w.heap.size none [] /\ Later w w' /\ w.heap.size < w'.heap.size := by
 go_enter Tryz.func54, Tryz.ntmps54
 go_wp2
 go_ret
 exact ⟨rfl, ⟨_, Row.new w 169 _, Own.nil _ _ _, rfl, by simp⟩, (Later.refl w).alloc _, by simp⟩
theorem wnone_yes (g : Nat) (v : Value) (made : Bool) (w : World) (hr : Row w g 169 #[v, .bool made]) : Calls Tryz.prog 103 #[.pointer (some ⟨g, 0, none⟩)] w fun e w' => w' = w /\ e = .returned (.bool (!made)) := by
 have hc : w.cell? ⟨g, 1, none⟩ = some (.bool made) := (hr.cell 1).trans rfl
 have hd : decide (made = false) = !made := by cases made <;> rfl
 go_enter Tryz.func103, Tryz.ntmps103
 go_wp2
 go_ret
 exact ⟨rfl, rfl⟩
def Wr.wrong (n : Int) : Bool := decide (n < 0) || decide (4611686018427387904 < n)
theorem wrongFn_any (n : Int) (w : World) : Calls Tryz.prog 105 #[.int .i64 n] w fun e w' => w' = w /\ e = .returned (.bool (Wr.wrong n)) := by
 unfold Wr.wrong
 by_cases h : n < 0
 ·have hd : decide (n < 0) = true := decide_eq_true h
  rw [hd]
  go_enter Tryz.func105, Tryz.ntmps105
  go_wp2
  go_ret
  exact ⟨rfl, rfl⟩
 ·have hd : decide (n < 0) = false := decide_eq_false h
  rw [hd, Bool.false_or]
  obtain ⟨b, hb⟩ : ∃ b, decide (4611686018427387904 < n) = b := ⟨_, rfl⟩
  rw [hb]
  go_enter Tryz.func105, Tryz.ntmps105
  go_wp2
  go_ret
  exact ⟨rfl, rfl⟩
theorem indexFn_any (A : Option Addr) (n c : Nat) (l : List Int) (w : World) (hn : l.length = n) (hm : n <= 1000000000) (hr : RdV w A (l.map numV)) :
  Calls Tryz.prog 137 #[.slice A n c, .func (.func 105) #[] #[]] w fun e w' => w' = w /\ ∃ k : Int, e = .returned (.int .i64 k) /\ decide (0 <= k) = l.any Wr.wrong := by
 have HN := Lib.hid hn
 clear hn
 go_enter Tryz.func137, Tryz.ntmps137
 go_wp2_with fail
 go_loopw [8] (fun t wr => wr = w /\ ∃ i : Nat, i <= n /\ t = .int .i64 (i : Int) /\ (l.take i).any Wr.wrong = false) (fun t _ => n - (intOf t).toNat)
 case atStart => exact ⟨rfl, 0, by omega, rfl, rfl⟩
 case round =>
  obtain ⟨rfl, i, hi, rfl, hany⟩ := hrel
  by_cases hlt : i < n
  ·have hd : decide ((i : Int) < (n : Int)) = true := decide_eq_true (by omega)
   have hd' : decide (i < n) = true := decide_eq_true hlt
   have hil : i < l.length := by rw [HN.out]; exact hlt
   obtain ⟨b, o, rfl, hc⟩ := hr.at_ (k := i) (by simpa using hil)
   rw [List.getElem_map] at hc
   have hnx : l.take (i + 1) = l.take i ++ [l[i]] := List.take_succ_eq_append_getElem hil
   have hsp : l = l.take i ++ (l[i] :: l.drop (i + 1)) := by simp
   generalize hx : l[i] = x at *
   have HNX := Lib.hid hnx
   have HSP := Lib.hid hsp
   clear hnx hsp hr
   by_cases hw : Wr.wrong x = true
   ·go_wp2_with (first
     | (go_at_call 105; refine (wrongFn_any x _).mono ?_; rintro e w2 ⟨rfl, rfl⟩; rw [hw])
     | fail)
    go_ret
    refine ⟨rfl, _, rfl, ?_⟩
    rw [HSP.out]
    simp [hw]
   ·have hw' : Wr.wrong x = false := by simpa using hw
    go_wp2_with (first
     | (go_at_call 105; refine (wrongFn_any x _).mono ?_; rintro e w2 ⟨rfl, rfl⟩; rw [hw'])
     | fail)
    go_roundw
    case rel => exact ⟨trivial, i + 1, by omega, by go_num, by rw [HNX.out, List.any_append, hany]; simp [hw']⟩
    case measure => simp [intOf]; omega
  ·obtain rfl : i = n := by omega
   have hd : decide ((i : Int) < (i : Int)) = false := decide_eq_false (by omega)
   rw [List.take_of_length_le (by rw [HN.out]; exact Nat.le_refl _)] at hany
   go_wp2_with fail
   go_ret
   exact ⟨rfl, _, rfl, by rw [hany]; rfl⟩
theorem containsFn_any (A : Option Addr) (n c : Nat) (l : List Int) (w : World) (hn : l.length = n) (hm : n <= 1000000000) (hr : RdV w A (l.map numV)) :
  Calls Tryz.prog 104 #[.slice A n c, .func (.func 105) #[] #[]] w fun e w' => w' = w /\ e = .returned (.bool (l.any Wr.wrong)) := by
 have hi := indexFn_any A n c l w hn hm hr
 go_enter Tryz.func104, Tryz.ntmps104
 go_wp2_with (first
  | (go_at_call 137; refine hi.mono ?_; clear hi; rintro e w2 ⟨rfl, k, rfl, hk⟩)
  | fail)
 go_ret
 exact ⟨rfl, by rw [<- hk]; rfl⟩
theorem Wr.nums_len (l : List Int) : (Wr.nums l).length <= 9 * l.length := by
 induction l with
 | nil => simp [Wr.nums]
 | cons x l ih =>
  have := Wr.nb_le x
  unfold Wr.nums at *
  rw [List.flatMap_cons, List.length_append, List.length_cons]
  omega
theorem Wr.wrong_lt {x : Int} (h : Wr.wrong x = false) : x < 9223372036854775808 := by
 unfold Wr.wrong at h
 simp at h
 omega
theorem wNumber_any (g : Nat) (r : Option Nat) (l0 : List UInt8) (A : Option Addr) (n c : Nat) (l : List Int) (w : World) (hn : l.length = n) (hm : n <= 1000000) (hl0 : l0.length <= 100000000) (hr : RdV w A (l.map numV)) (hA : ∀ b o, A = some ⟨b, o, none⟩ -> l ≠ [] -> b ≠ g /\ some b ≠ r) (hw : IsWr w g r l0) :
  Calls Tryz.prog 56 #[.pointer (some ⟨g, 0, none⟩), .slice A n c] w fun e w' => (l.any Wr.wrong = true /\ w' = w /\ e = .returned (.int .i64 2)) \/ (l.any Wr.wrong = false /\ e = .returned (.int .i64 0) /\ ∃ r', IsWr w' g r' (l0 ++ Wr.nums l) /\ Wrote w w' g r r') := by
 have hct := containsFn_any A n c l w hn (by omega) hr
 obtain ⟨v, hrow, hown, hv, hrg⟩ := hw
 have HN := Lib.hid hn
 clear hn
 have hno := wnone_yes g v true w hrow
 cases hany : l.any Wr.wrong with
 | true =>
  rw [hany] at hct
  go_enter Tryz.func56, Tryz.ntmps56
  go_wp2_with (first
   | (go_at_call 103; refine hno.mono ?_; clear hno; rintro e w2 ⟨rfl, rfl⟩)
   | (go_at_call 104; refine hct.mono ?_; clear hct; rintro e w2 ⟨rfl, rfl⟩)
   | fail)
  go_ret
  exact .inl ⟨trivial, rfl, rfl⟩
 | false =>
  rw [hany] at hct
  have HANY := Lib.hid hany
  clear hany
  have hw : IsWr w g r l0 := ⟨v, hrow, hown, hv, hrg⟩
  clear hrow hown hv
  go_enter Tryz.func56, Tryz.ntmps56
  go_wp2_with (first
   | (go_at_call 103; refine hno.mono ?_; clear hno; rintro e w2 ⟨rfl, rfl⟩)
   | (go_at_call 104; refine hct.mono ?_; clear hct; rintro e w2 ⟨rfl, rfl⟩)
   | fail)
  have hgl := hw.lt.1
  go_loopw [15] (fun t wr => ∃ i : Nat, i <= n /\ t = .int .i64 (i : Int) /\ ∃ r1, IsWr wr g r1 (l0 ++ Wr.nums (l.take i)) /\ Wrote w2 wr g r r1) (fun t _ => n - (intOf t).toNat)
  case atStart => exact ⟨0, by omega, rfl, r, by simpa [Wr.nums] using hw, Wrote.refl _ _ _⟩
  case round =>
   obtain ⟨i, hi, rfl, r1, ⟨v1, hrow1, hown1, hv1, hne1⟩, hwr⟩ := hrel
   by_cases hlt : i < n
   ·have hd : decide ((i : Int) < (n : Int)) = true := decide_eq_true (by omega)
    have hd' : decide (i < n) = true := decide_eq_true hlt
    have hil : i < l.length := by rw [HN.out]; exact hlt
    have hr1 : RdV wr A (l.map numV) := hr.same hwr.1 (fun b o e hne hb => ⟨hb, hA b o e (by intro h; subst h; exact hne rfl)⟩)
    obtain ⟨b, o, rfl, hc⟩ := hr1.at_ (k := i) (by simpa using hil)
    rw [List.getElem_map] at hc
    have hnx : Wr.nums (l.take (i + 1)) = Wr.nums (l.take i) ++ Wr.nb l[i] := by rw [List.take_succ_eq_append_getElem hil, Wr.nums, List.flatMap_append, List.flatMap_cons, List.flatMap_nil, List.append_nil]; rfl
    have hxw : Wr.wrong l[i] = false := by
     have := HANY.out
     rw [List.any_eq_false] at this
     simpa using this _ (List.getElem_mem hil)
    have hlen := Wr.nums_len (l.take i)
    rw [List.length_take] at hlen
    have hc1 : wr.cell? ⟨g, 0, none⟩ = some v1 := (hrow1.cell 0).trans rfl
    generalize l[i] = x at *
    have HNX := Lib.hid hnx
    clear hnx hr1
    have hnum := wnumber_any v1 (l0 ++ Wr.nums (l.take i)) x 0 wr (Wr.wrong_lt hxw) (by rw [List.length_append]; omega) (Nat.zero_le _) hown1
    go_wp2_with (first
     | (go_at_call 106; refine hnum.mono ?_; clear hnum; rintro e w3 ⟨v3, rfl, hown3, hgr3⟩; obtain ⟨A3, n3, c3, rfl⟩ := hown3.shape; have hrow3 := hrow1.grown hgr3.1 (fun e => hne1 (hv1 ▸ e.symm)); have hc3 : w3.cell? ⟨g, 0, none⟩ = some v1 := (hrow3.cell 0).trans rfl; have hf3 : w3.frozen? ⟨g, 0, none⟩ = false := hrow3.frozen 0; have HO := Lib.hid hown3; clear hown3 hrow3)
     | fail)
    obtain ⟨hws, hwr2⟩ := wr_step hrow1 (hv1.symm ▸ hne1) HO.out hgr3
    rw [List.append_assoc, <- HNX.out] at hws
    go_roundw
    case rel => exact ⟨i + 1, by omega, by go_num, _, hws, hwr.trans (hv1 ▸ hwr2)⟩
    case measure => simp [intOf]; omega
   ·obtain rfl : i = n := by omega
    have hd : decide ((i : Int) < (i : Int)) = false := decide_eq_false (by omega)
    have hd' : decide (i < i) = false := decide_eq_false (by omega)
    rw [List.take_of_length_le (by rw [HN.out]; exact Nat.le_refl _)] at hown1
    go_wp2_with fail
    go_ret
    exact .inr ⟨trivial, rfl, r1, ⟨v1, hrow1, hown1, hv1, hne1⟩, hwr⟩
section
variable {P : Program}
theorem strCells_list (s : List UInt8) : Lib.strCells ⟨s.toArray⟩ = s.map byteV := by simp [Lib.strCells]
theorem run_append_str_at (w : World) (base : Nat) (t u ty U : TypeId) (ht : P.underlying t = some (.slice U)) (hu : P.underlying u = some .string) (hi : ByteInfo P U) (v : Value) (l : List UInt8) (hown : Own U w base v l) (s : List UInt8) (hlen : l.length + s.length <= 140737488355328) (hbase : base <= w.heap.size) :
  ∃ v' w', (Builtin.append_ #[t, u] ty #[v, .string ⟨s.toArray⟩]).run P w = .ok v' w' /\ Own U w' base v' (l ++ s) /\ w.grownBy w' v.ownBlock /\ (v'.ownBlock = v.ownBlock \/ v'.ownBlock = some w.heap.size) := by
 obtain ⟨i, hi0, hz, hs, hb⟩ := info_parts hi
 have hsz : (⟨s.toArray⟩ : ByteArray).size = s.length := by simp [ByteArray.size]
 obtain ⟨v', w', hr, h2, h3, h4⟩ := Lib.run_append_own_string (P := P) w base t u ty U i ht hu hi0 hz hs hb v l.length (l.map byteV) hown ⟨s.toArray⟩ (by rw [hsz]; unfold maxLen; omega) (by rw [hsz]; exact hlen) hbase
 rw [hsz, strCells_list, <- List.map_append] at h2
 refine ⟨v', w', hr, by unfold Own; rw [List.length_append]; exact h2, h3, ?_⟩
 rcases hown.2 with ⟨rfl, hl⟩ | ⟨g, cap, cur, rfl, hbg, hg, hnc, hcm, hcs, htake⟩
 ·by_cases h0 : s.length = 0
  ·rw [h4.2 ⟨rfl, by rw [hsz]; exact h0⟩]
   exact .inl rfl
  ·have hn := run_append_nil_string (P := P) w t u ty U i (.int .u8 0) ht hu hi0 hz ⟨s.toArray⟩ (by rw [hsz]; omega) (by rw [hsz]; omega) (by rw [hsz, hb]; omega)
   have e0 := hr.symm.trans hn
   injection e0 with e _
   rw [e]
   exact .inr rfl
 ·by_cases hroom : l.length + s.length <= cap
  ·have hcs' : cur.size = cap := by simpa using hcs
   have hn := Lib.run_append_room_string (P := P) w t u ty U i ht hu hi0 hs g l.length cap cur hg ⟨s.toArray⟩ (by rw [hsz]; exact hroom) (by rw [hsz]; omega)
   have e0 := hr.symm.trans hn
   injection e0 with e _
   rw [e]
   exact .inl rfl
  ·have hn := Lib.run_append_grow_string (P := P) w t u ty U i (.int .u8 0) ht hu hi0 hz ⟨g, 0, none⟩ l.length cap (l.map byteV) (by rw [hs]; simp) (World.ownsRow.cells hown (g := g) rfl) ⟨s.toArray⟩ (by rw [hsz]; omega) (by rw [hsz]; omega) (by rw [hsz, hb]; exact growslice_fits (by omega) (by omega))
   have e0 := hr.symm.trans hn
   injection e0 with e _
   rw [e]
   exact .inr rfl
theorem wpList_append_str {w : World} {ops : Array Oper} {rest : List Oper} {o : Oper} {a : Act} {Q : Exit -> Act -> World -> Prop} (hgd : o.guard = none) (sl x : Operand) (t u : TypeId)
  (ho : o.op = .call { callee := .builtin .append, args := #[sl, x], argTypes := #[t, u] }) (base : Nat) (U : TypeId) (ht : P.underlying t = some (.slice U)) (hu : P.underlying u = some .string) (hi : ByteInfo P U)
  (v : Value) (l : List UInt8) (hs : a.eval sl = v) (hown : Own U w base v l) (s : List UInt8) (hx : a.eval x = .string ⟨s.toArray⟩) (hlen : l.length + s.length <= 140737488355328) (hbase : base <= w.heap.size)
  (h : ∀ v' w', Own U w' base v' (l ++ s) -> w.grownBy w' v.ownBlock -> (v'.ownBlock = v.ownBlock \/ v'.ownBlock = some w.heap.size) -> wpList P ops Q rest (a.put o.dst v') w') : wpList P ops Q (o :: rest) a w :=
 wpList_plain hgd fun _ hK => by
  obtain ⟨v', w', hr', h2, h3, h4⟩ := run_append_str_at (P := P) w base t u o.type U ht hu hi v l hown s hlen hbase
  unfold Oper.wp execOp
  simp only [ho, resolve, invoke, builtin, Sem.run_bind, Sem.run_pure, Result.andThen_ok, List.map_toArray, List.map_cons, List.map_nil, hs, hx, hr']
  exact hK _ _ (h v' w' h2 h3 h4)
end
theorem Grew.of_at {w w' : World} {v v' : Value} (hg : w.grownBy w' v.ownBlock) (hat : v'.ownBlock = v.ownBlock \/ v'.ownBlock = some w.heap.size) : Grew w w' v v' := ⟨hg, fun k hk => by
 rcases hat with e | e
 ·exact .inl (e ▸ hk)
 ·rw [e] at hk
  exact .inr (Nat.le_of_eq (Option.some.inj hk))⟩
theorem wall_any (g : Nat) (r : Option Nat) (l : List UInt8) (w : World) (hm : l.length <= 140737488355328) (hw : IsWr w g r l) :
  Calls Tryz.prog 58 #[.pointer (some ⟨g, 0, none⟩)] w fun e w' => ∃ v, e = .returned v /\ Own 5 w' w.heap.size v l /\ Later w w' := by
 obtain ⟨v, hrow, hown, hv, hrg⟩ := hw
 obtain ⟨A, c, rfl, _, _, hrd⟩ := hown.slice
 have hno := wnone_yes g _ true w hrow
 have hcl := clone_any A l.length c l w rfl hm hrd
 have hc1 : w.cell? ⟨g, 0, none⟩ = some (.slice A l.length c) := (hrow.cell 0).trans rfl
 go_enter Tryz.func58, Tryz.ntmps58
 go_wp2_with (first
  | (go_at_call 103; refine hno.mono ?_; clear hno; rintro e w2 ⟨rfl, rfl⟩)
  | (go_at_call 78; refine hcl.mono ?_; clear hcl; rintro e w3 ⟨v3, rfl, hown3, hL3⟩)
  | fail)
 go_ret
 exact ⟨_, rfl, hown3, hL3⟩
theorem wText_any (g : Nat) (r : Option Nat) (l0 s : List UInt8) (w : World) (hm : s.length < 9223372036854775808) (hl0 : l0.length <= 100000000) (hw : IsWr w g r l0) :
  Calls Tryz.prog 72 #[.pointer (some ⟨g, 0, none⟩), .string ⟨s.toArray⟩] w fun e w' => (1048576 < s.length /\ w' = w /\ e = .returned (.int .i64 3)) \/ (s.length <= 1048576 /\ e = .returned (.int .i64 0) /\ ∃ r', IsWr w' g r' (l0 ++ (Wr.bytes s.length ++ s)) /\ Wrote w w' g r r') := by
 obtain ⟨v, hrow, hown, hv, hrg⟩ := hw
 have hno := wnone_yes g v true w hrow
 have hsz : (⟨s.toArray⟩ : ByteArray).size = s.length := by simp [ByteArray.size]
 by_cases hbig : 1048576 < s.length
 ·have hd : decide ((1048576 : Int) < (s.length : Int)) = true := decide_eq_true (by omega)
  have hd' : decide (1048576 < s.length) = true := decide_eq_true (by omega)
  go_enter Tryz.func72, Tryz.ntmps72
  go_wp2_with (first
   | (go_at_call 103; refine hno.mono ?_; clear hno; rintro e w2 ⟨rfl, rfl⟩)
   | fail)
  go_ret
  exact .inl ⟨hbig, rfl, rfl⟩
 ·have hd : decide ((1048576 : Int) < (s.length : Int)) = false := decide_eq_false (by omega)
  have hd' : decide (1048576 < s.length) = false := decide_eq_false (by omega)
  have hnum := wnumber_any v l0 (s.length : Int) 0 w (by omega) (by omega) (Nat.zero_le _) hown
  rw [Wr.nb_nat] at hnum
  have hbl := Wr.bytes_le s.length
  have hc1 : w.cell? ⟨g, 0, none⟩ = some v := (hrow.cell 0).trans rfl
  generalize hlen : s.length = n at *
  go_enter Tryz.func72, Tryz.ntmps72
  go_wp2_with (first
   | (go_at_call 103; refine hno.mono ?_; clear hno; rintro e w2 ⟨rfl, rfl⟩)
   | (go_at_call 106; refine hnum.mono ?_; clear hnum; rintro e w3 ⟨v3, rfl, hown3, hgr3⟩)
   | (at_builtin; refine wpList_append_str rfl (.tmp 19) (.tmp 20) 60 9 rfl 0 5 Tryz.underlying60 Tryz.underlying9 byteInfo v3 (l0 ++ Wr.bytes n) rfl hown3 s rfl (by rw [List.length_append]; omega) (Nat.zero_le _) ?_; intro v4 w4 hown4 hg4 hat4; have hgr4 := hgr3.trans (Grew.of_at hg4 hat4); obtain ⟨A4, n4, c4, rfl⟩ := hown4.shape; have hrow4 := hrow.grown hgr4.1 (fun e => hrg (hv ▸ e.symm)); have hc4 : w4.cell? ⟨g, 0, none⟩ = some v := (hrow4.cell 0).trans rfl; have hf4 : w4.frozen? ⟨g, 0, none⟩ = false := hrow4.frozen 0; have HO := Lib.hid hown4; have HG := Lib.hid hgr4; clear hown4 hrow4 hgr4 hg4 hat4)
   | fail)
  go_ret
  obtain ⟨hws, hwr⟩ := wr_step hrow (hv.symm ▸ hrg) HO.out HG.out
  rw [List.append_assoc] at hws
  exact .inr ⟨by omega, rfl, _, hws, hv ▸ hwr⟩
theorem loadHr {w : World} {b o : Nat} {h : List UInt8} (hl : h.length = 32) (hr : w.rangeAt b o (hC h).toList) : (Instr.loadAt 25 (.pointer (some ⟨b, o, none⟩))).run Tryz.prog w = .ok (.agg (hC h)) w := by
 have := run_loadAt_mid (P := Tryz.prog) w b o 25 (hC h).toList _ hr Tryz.underlying25 rfl (by rw [Array.length_toList, hC_size h (by omega)]; exact infoH)
 rwa [Array.toArray_toList] at this
theorem Grew.later0 {w w1 w2 : World} {v v' : Value} (k : Later w w1) (h : Grew w1 w2 v v') : Grew w w2 v v' := ⟨⟨h.1.os.trans k.os, h.1.tape.trans k.tape, h.1.output.trans k.output, Nat.le_trans k.size h.1.size, fun i hi hn => (h.1.block i (Nat.lt_of_lt_of_le hi k.size) hn).trans (k.block i hi)⟩, fun i e => (h.2 i e).imp id (fun h => Nat.le_trans k.size h)⟩
theorem Wrote.later0 {w w1 w2 : World} {g : Nat} {r r' : Option Nat} (k : Later w w1) (h : Wrote w1 w2 g r r') : Wrote w w2 g r r' := ⟨((Same.of_below k).mono fun j hj => hj.1).trans (h.1.mono fun j hj => ⟨Nat.lt_of_lt_of_le hj.1 k.size, hj.2⟩), fun i e => (h.2 i e).imp id (fun h => Nat.le_trans k.size h)⟩
theorem flat_len32 : ∀ (l : List (List UInt8)), (∀ h ∈ l, h.length = 32) -> l.flatten.length <= 32 * l.length
 | [], _ => by simp
 | x :: l, h => by
  have h1 := flat_len32 l (fun y hy => h y (List.mem_cons_of_mem _ hy))
  have h2 := h x List.mem_cons_self
  rw [List.flatten_cons, List.length_append, List.length_cons]
  omega
theorem fieldWr0 {g : Nat} (W : World) : (Instr.fieldAt 169 (.pointer (some ⟨g, 0, none⟩)) 0).run Tryz.prog W = .ok (.pointer (some ⟨g, 0, none⟩)) W := by
 go_simp
theorem wHash_any (g : Nat) (r : Option Nat) (l0 : List UInt8) (A : Option Addr) (n c : Nat) (l : List (List UInt8)) (w : World) (hn : l.length = n) (hm : n <= 1000000) (hl32 : ∀ h ∈ l, h.length = 32) (hl0 : l0.length <= 100000000) (hr : RdH w A l) (hA : ∀ b o, A = some ⟨b, o, none⟩ -> l ≠ [] -> b ≠ g /\ some b ≠ r) (hw : IsWr w g r l0) :
  Calls Tryz.prog 55 #[.pointer (some ⟨g, 0, none⟩), .slice A n c] w fun e w' => e = .returned (.int .i64 0) /\ ∃ r', IsWr w' g r' (l0 ++ l.flatten) /\ Wrote w w' g r r' := by
 have hw0 := hw
 obtain ⟨v, hrow, hown, hv, hrg⟩ := hw
 have HN := Lib.hid hn
 clear hn
 have hno := wnone_yes g v true w hrow
 clear hrow hown hv
 go_enter Tryz.func55, Tryz.ntmps55
 go_wp2_with (first
  | (go_at_call 103; refine hno.mono ?_; clear hno; rintro e w2 ⟨rfl, rfl⟩)
  | fail)
 have hgl := hw0.lt.1
 go_loopw [11] (fun t wr => ∃ i : Nat, i <= n /\ t = .int .i64 (i : Int) /\ ∃ r1, IsWr wr g r1 (l0 ++ (l.take i).flatten) /\ Wrote w2 wr g r r1) (fun t _ => n - (intOf t).toNat)
 case atStart => exact ⟨0, by omega, rfl, r, by simpa using hw0, Wrote.refl _ _ _⟩
 case round =>
  obtain ⟨i, hi, rfl, r1, hwr1, hwr⟩ := hrel
  by_cases hlt : i < n
  ·have hd : decide ((i : Int) < (n : Int)) = true := decide_eq_true (by omega)
   have hd' : decide (i < n) = true := decide_eq_true hlt
   have hil : i < l.length := by rw [HN.out]; exact hlt
   have hr1 : RdH wr A l := hr.same hwr.1 (fun b o e hne hb => ⟨hb, hA b o e (by intro h; subst h; exact hne rfl)⟩)
   obtain ⟨b, o, rfl, hcs⟩ := hr1 (by intro e; subst e; simp at hil)
   have hc := hcs i hil
   have hx32 := hl32 _ (List.getElem_mem hil)
   have hnx : (l.take (i + 1)).flatten = (l.take i).flatten ++ l[i] := by rw [List.take_succ_eq_append_getElem hil, List.flatten_append]; simp
   have hlen : (l.take i).flatten.length <= 32 * n := Nat.le_trans (flat_len32 _ (fun h hh => hl32 h (List.mem_of_mem_take hh))) (by rw [List.length_take]; omega)
   generalize l[i] = x at *
   have hld := loadHr hx32 hc
   obtain ⟨w3, hst, hrow3, hg3⟩ := storeH (a := []) (b := x) (by simp) (by omega) (Row.new wr 25 (hC []))
   have HNX := Lib.hid hnx
   have HX := Lib.hid hx32
   clear hnx hr1 hcs hc hx32
   go_upto_region 6 with (first
    | (refine wpList_load rfl 25 (.tmp 13) rfl (.pointer (some ⟨b, o + i * 32, none⟩)) rfl hld ?_)
    | (with_reducible refine wpList_alloc rfl 25 rfl (allocH _) ?_)
    | (refine wpList_store rfl 25 (.tmp 6) (.tmp 14) rfl (.pointer (some ⟨wr.heap.size, 0, none⟩)) (.agg (hC x)) rfl rfl hst ?_)
    | fail)
   simp only [Act.put, List.setIfInBounds_toArray, List.set_cons_succ, List.set_cons_zero]
   obtain ⟨v1, hrow1, hown1, hv1, hne1⟩ := hwr1
   obtain ⟨q, hq⟩ : ∃ q, q = wr.heap.size := ⟨_, rfl⟩
   rw [<- hq] at hrow3 hg3 ⊢
   have hL3 : Later wr w3 := ((Later.refl wr).alloc (.cells (hC []) 25)).grown hg3 (by simp) (fun k e => by cases e; omega)
   obtain ⟨A1, n1, c1, rfl⟩ := hown1.shape
   have hrow13 := hrow1.later hL3
   have hown13 := hown1.later hL3
   refine (wpIn_wide (n := 0)).1 ?_
   refine wpIn_region_pivot wide_wide 6 [.pointer (some ⟨g, 0, none⟩), .pointer (some ⟨g, 0, none⟩), .pointer (some ⟨g, 0, none⟩), .pointer (some ⟨g, 0, none⟩), .slice A1 n1 c1, .slice (some ⟨q, 0, none⟩) 32 32, undef, .pointer (some ⟨g, 0, none⟩), .pointer (some ⟨g, 0, none⟩)] (fun W => Later w3 W) (fun y W => Own 5 W 0 y (l0 ++ (l.take i).flatten ++ x) /\ Grew w3 W (.slice A1 n1 c1) y) (fun W W' h k => k.step h) (fun y W W' h k => ⟨k.1.later h, k.2.later h⟩) (Later.refl _) (by kernel_rfl) (by kernel_rfl) (by kernel_rfl) (by kernel_rfl) (by kernel_rfl) (by kernel_rfl) rfl (by kernel_rfl) (by kernel_rfl) ⟨?_, ?_, ?_, ?_, ?_, ?_, ?_, ?_, ?_, trivial⟩ ?_
   iterate 2 (exact fun ac W dd xx he => stepOk_want rfl (op_move rfl (he.k 0)))
   ·exact fun ac W dd xx he => stepOk_want rfl (op_nil rfl (show ac.eval (.tmp 16) = .pointer (some ⟨g, 0, none⟩) from he.v 1 16) rfl)
   ·exact fun ac W dd xx he => stepOk_want rfl (op_fieldAddr rfl (show ac.eval (.tmp 17) = .pointer (some ⟨g, 0, none⟩) from he.v 2 17) (fieldWr0 W) rfl)
   ·exact fun ac W dd xx he => stepOk_want rfl (op_load rfl (show ac.eval (.tmp 18) = .pointer (some ⟨g, 0, none⟩) from he.v 3 18) (loadSl ((he.both (C := fun W => Row W g 169 #[.slice A1 n1 c1, .bool true]) (fun W h => hrow13.later h) (fun y W h => hrow13.grown h.2.1 (fun e => hne1 (hv1 ▸ e.symm)))).cell 0 |>.trans rfl)) rfl)
   ·exact fun ac W dd xx he => stepOk_want rfl (op_slice (W' := W) rfl (he.k 6) (rfl : _ = none) (rfl : _ = none) rfl (sliceHash W) rfl)
   ·intro ac W he hA; refine ⟨rfl, ?_⟩; have e19 := (show ac.eval (.tmp 19) = .slice A1 n1 c1 from he.v 4 19); have e20 := (show ac.eval (.tmp 20) = .slice (some ⟨q, 0, none⟩) 32 32 from he.v 5 20); exact op_append_bytes (.tmp 19) (.tmp 20) 60 rfl 0 5 Tryz.underlying60 byteInfo (.slice A1 n1 c1) _ e19 (hown13.later hA) (some ⟨q, 0, none⟩) 32 32 x e20 HX.out (rd_hash HX.out (hrow3.later hA)) (by rw [List.length_append]; omega) (Nat.zero_le _) (fun v' w' h1 h2 h3 => ⟨v', rfl, h1, Grew.later0 hA (Grew.of_at h2 h3)⟩)
   ·exact fun ac W dd xx he => stepOk_want rfl (op_nil rfl (show ac.eval (.tmp 15) = .pointer (some ⟨g, 0, none⟩) from he.v 0 15) rfl)
   ·exact fun ac W dd xx he => stepOk_want rfl (op_fieldAddr rfl (show ac.eval (.tmp 22) = .pointer (some ⟨g, 0, none⟩) from he.v 7 22) (fieldWr0 W) rfl)
   ·intro xs W y hB hx hk hg
    have e8 := hg 8 23 (by decide) (by kernel_rfl)
    have e6 := hg 6 21 (by decide) (by kernel_rfl)
    rw [hx 8 (by decide)] at e8
    rw [hx 6 (by decide)] at e6
    obtain ⟨hownW, hgrW⟩ := hB
    obtain ⟨A4, n4, c4, rfl⟩ := hownW.shape
    have hrowW := hrow13.grown hgrW.1 (fun e => hne1 (hv1 ▸ e.symm))
    obtain ⟨hws, hwr2⟩ := wr_step hrow13 (hv1.symm ▸ hne1) hownW hgrW
    have hst4 : (Instr.storeAt 60 (.pointer (some ⟨g, 0, none⟩)) (.slice A4 n4 c4)).run Tryz.prog W = .ok () (W.setCell ⟨g, 0, none⟩ (.slice A4 n4 c4)) := by
     have h1 : W.cell? ⟨g, 0, none⟩ = some (.slice A1 n1 c1) := (hrowW.cell 0).trans rfl
     have h2 : W.frozen? ⟨g, 0, none⟩ = false := hrowW.frozen 0
     go_simp
    refine last_store rfl rfl e8 e6 hst4 ?_
    clear hx hk hg e8 e6
    simp only [initL, lastL, putL, Nat.reduceAdd, Act.put, List.setIfInBounds_toArray, List.set_cons_succ, List.set_cons_zero]
    go_wp2_with fail
    rw [List.append_assoc, <- HNX.out] at hws
    exact ⟨⟨i + 1, by omega, by go_num, _, hws, hwr.trans (Wrote.later0 hL3 (hv1 ▸ hwr2))⟩, by simp [intOf]; omega⟩
  ·obtain rfl : i = n := by omega
   have hd : decide ((i : Int) < (i : Int)) = false := decide_eq_false (by omega)
   have hd' : decide (i < i) = false := decide_eq_false (by omega)
   rw [List.take_of_length_le (by rw [HN.out]; exact Nat.le_refl _)] at hwr1
   go_wp2_with fail
   go_ret
   exact ⟨rfl, r1, hwr1, hwr⟩
end Go.Proofs.YtloiaaolnfimgaaGreat
namespace Go.Proofs.YtloiaaolnfimgaaGreat
open Go.RowKit Go.ChangeShapes Go.WideShapes Go.ChangeAt
section
variable {P : Program} {W : World}
theorem eqgI {op : BinOp} {t : TypeId} {x y : Operand} {k k' : IntKind} {i j : Int} : (eqGuard op t x y (.int k i) (.int k' j)).run P W = .ok () W := by cases op <;> rfl
theorem eqgB {op : BinOp} {t : TypeId} {x y : Operand} {i j : Bool} : (eqGuard op t x y (.bool i) (.bool j)).run P W = .ok () W := by cases op <;> rfl
end
end Go.Proofs.YtloiaaolnfimgaaGreat
namespace Go.Proofs.YtloiaaolnfimgaaGreat
open Go.RowKit
theorem refText_any (s : List UInt8) (w : World) (hs : s.length <= 100000000) : Calls Tryz.prog 75 #[.string ⟨s.toArray⟩] w fun e w' => ∃ v', e = .returned v' /\ Own 5 w' w.heap.size v' (Wr.bytes s.length ++ s) /\ Later w w' := by
 have hnum := refNumber_any s.length w (by omega)
 have hbl := Wr.bytes_le s.length
 have hsz : (⟨s.toArray⟩ : ByteArray).size = s.length := by simp [ByteArray.size]
 generalize hlen : s.length = n at *
 go_enter Tryz.func75, Tryz.ntmps75
 go_wp2_with (first
  | (go_at_call 63; refine hnum.mono ?_; clear hnum; rintro e w1 ⟨v1, rfl, hown1, hL1⟩; obtain ⟨A1, n1, c1, rfl⟩ := hown1.shape)
  | (at_builtin; refine wpList_append_str rfl (.tmp 5) (.tmp 6) 60 9 rfl w.heap.size 5 Tryz.underlying60 Tryz.underlying9 byteInfo _ (Wr.bytes n) rfl hown1 s rfl (by omega) hL1.size ?_; intro v4 w4 hown4 hg4 hat4; obtain ⟨A4, n4, c4, rfl⟩ := hown4.shape)
  | fail)
 go_ret
 exact ⟨_, rfl, hown4, hL1.grown hg4 hL1.size (fun q e => (hown1.at_ q e).1)⟩
end Go.Proofs.YtloiaaolnfimgaaGreat
namespace Go.Proofs.YtloiaaolnfimgaaGreat
open Go.RowKit Rt
theorem loadKeyR {w : World} {g : Nat} {t : TypeId} {h : Hop} (hw : h.wf) (hr : Row w g t (hopC h)) : (Instr.loadAt 25 (.pointer (some ⟨g, 0, none⟩))).run Tryz.prog w = .ok (.agg (hC h.key)) w := by
 have hz := hC_size h.key (Nat.le_of_eq hw.1)
 exact run_load_part hr (fun j hj => by rw [Nat.zero_add]; exact hopC_key hw j (by omega)) Tryz.underlying25 rfl (by rw [hz]; exact infoH)
theorem loadHopM {w : World} {b o : Nat} {h : Hop} (hw : h.wf) (hr : w.rangeAt b o (hopL h)) : (Instr.loadAt 27 (.pointer (some ⟨b, o, none⟩))).run Tryz.prog w = .ok (.agg (hopC h)) w := by
 have := run_loadAt_mid (P := Tryz.prog) w b o 27 (hopL h) _ hr Tryz.underlying27 rfl (by rw [hopL_len hw]; exact infoHop)
 rwa [Array.toArray_toList] at this
theorem neqHopMe {h : Hop} (hw : h.wf) (w : World) : (binOp .neq 27 (.agg (hopC h)) (.agg (hopC h))).run Tryz.prog w = .ok (.bool false) w := by
 rw [run_neq_struct, eqHop 9996 hw hw, hEq_refl]
 rfl
theorem cmpL {P : Program} {T : TypeId} {x y : Int} {b : Bool} {W : World} (h : decide (x < y) = b) : (binOp .lss T (.int .i64 x) (.int .i64 y)).run P W = .ok (.bool b) W := by subst h; kernel_rfl
theorem range_later {w W : World} {b o : Nat} {vs : List Value} (hr : w.rangeAt b o vs) (hL : Later w W) : W.rangeAt b o vs := fun j v hv => Later.cell hL (hr j v hv)
theorem infoHopG : (Tryz.prog.info? 27).map (fun i => (i.zero, i.size, i.bytes)) = some (some (Value.agg (hopC noHop)), 66, 80) := by kernel_rfl
theorem buildHops0 (f : Nat -> Value) (w : World) : (Instr.buildSlice 22 1 #[(0, .agg ((List.range 66).map f).toArray)]).run Tryz.prog w = .ok (.slice (some ⟨w.heap.size, 0, none⟩) 1 1) (w.alloc (.cells ((List.range 66).map f).toArray 27)) := by kernel_rfl
theorem buildHops1 {h : Hop} (hw : h.wf) (w : World) : (Instr.buildSlice 22 1 #[(0, .agg (hopC h))]).run Tryz.prog w = .ok (.slice (some ⟨w.heap.size, 0, none⟩) 1 1) (w.alloc (.cells (hopC h) 27)) := by
 rw [arr_range (hopC h) 66 (hopC_size hw)]
 exact buildHops0 _ w
theorem hopL_ok {h : Hop} (hw : h.wf) : (hopL h).length = 66 /\ ∀ u ∈ hopL h, u.oneCell' = true := ⟨hopL_len hw, hopL_one h⟩
theorem buildI2 (a b : Int) (w : World) : (Instr.buildSlice 101 2 #[(0, .int .i64 a), (1, .int .i64 b)]).run Tryz.prog w = .ok (.slice (some ⟨w.heap.size, 0, none⟩) 2 2) (w.alloc (.cells #[.int .i64 a, .int .i64 b] 2)) := by kernel_rfl
theorem rdI_two (a b : Int) (w : World) : RdV (w.alloc (.cells #[.int .i64 a, .int .i64 b] 2)) (some ⟨w.heap.size, 0, none⟩) ([a, b].map numV) := fun _ => by
 have hr := Row.new w 2 #[.int .i64 a, .int .i64 b]
 refine ⟨_, _, rfl, fun i hi => ?_⟩
 have hi2 : i = 0 \/ i = 1 := by simp at hi; omega
 rcases hi2 with rfl | rfl
 ·exact (hr.cell 0).trans rfl
 ·exact (hr.cell 1).trans rfl
structure GB (w : World) (base g : Nat) (T0 : TypeId) (cs : Array Value) (W : World) : Prop where
 low : Below base w W
 src : Row W g T0 cs
 sz : base <= W.heap.size
 lt : g < base
theorem GB.later {w W W' : World} {base g : Nat} {T0 : TypeId} {cs : Array Value} (h : GB w base g T0 cs W) (hL : Later W W') : GB w base g T0 cs W' := ⟨h.low.trans (hL.below.mono h.sz), h.src.later hL, Nat.le_trans h.sz hL.size, h.lt⟩
theorem GB.put {w W W' : World} {base g : Nat} {T0 : TypeId} {cs : Array Value} {v : Value} {l : List UInt8} (h : GB w base g T0 cs W) (hown : Own 5 W base v l) (hg : W.grownBy W' v.ownBlock) : GB w base g T0 cs W' :=
 have hb : Below base W W' := (Below.refl base _).grown hg h.sz (fun q e => (hown.at_ q e).1)
 ⟨h.low.trans hb, h.src.below hb h.lt, Nat.le_trans h.sz hb.size, h.lt⟩
def NApp (w : World) (base g : Nat) (T0 : TypeId) (cs : Array Value) (v0 : Value) (l0 p1 p2 : List UInt8) : List Value -> World -> Prop
 | [], W => GB w base g T0 cs W /\ Own 5 W base v0 l0
 | [n1], W => GB w base g T0 cs W /\ Own 5 W base v0 l0 /\ ∃ A c, n1 = .slice A p1.length c /\ Rd W A p1
 | [_, v1], W => GB w base g T0 cs W /\ Own 5 W base v1 (l0 ++ p1)
 | [_, v1, n2], W => GB w base g T0 cs W /\ Own 5 W base v1 (l0 ++ p1) /\ ∃ A c, n2 = .slice A p2.length c /\ Rd W A p2
 | [_, _, _, v2], W => GB w base g T0 cs W /\ Own 5 W base v2 (l0 ++ p1 ++ p2)
 | _, _ => False
section
variable {w W W' : World} {base g : Nat} {T0 : TypeId} {cs : Array Value} {v0 : Value} {l0 p1 p2 : List UInt8} {rs : List Value}
theorem NApp.later (h : NApp w base g T0 cs v0 l0 p1 p2 rs W) (hL : Later W W') : NApp w base g T0 cs v0 l0 p1 p2 rs W' := by
 rcases rs with _ | ⟨a, _ | ⟨b, _ | ⟨c, _ | ⟨d, _ | ⟨e, rs⟩⟩⟩⟩⟩
 ·exact ⟨h.1.later hL, h.2.later hL⟩
 ·obtain ⟨h1, h2, A, c, h3, h4⟩ := h
  exact ⟨h1.later hL, h2.later hL, A, c, h3, h4.later hL⟩
 ·exact ⟨h.1.later hL, h.2.later hL⟩
 ·obtain ⟨h1, h2, A, c, h3, h4⟩ := h
  exact ⟨h1.later hL, h2.later hL, A, c, h3, h4.later hL⟩
 ·exact ⟨h.1.later hL, h.2.later hL⟩
 ·exact h
theorem NApp.gb (h : NApp w base g T0 cs v0 l0 p1 p2 rs W) : GB w base g T0 cs W := by
 rcases rs with _ | ⟨a, _ | ⟨b, _ | ⟨c, _ | ⟨d, _ | ⟨e, rs⟩⟩⟩⟩⟩
 iterate 5 (exact h.1)
 ·exact h.elim
theorem len1 {rs : List Value} (h : rs.length = 1) : ∃ a, rs = [a] := List.length_eq_one_iff.1 h
theorem len2 {rs : List Value} (h : rs.length = 2) : ∃ a b, rs = [a, b] := by
 rcases rs with _ | ⟨a, _ | ⟨b, _ | ⟨c, rs⟩⟩⟩ <;> simp at h
 exact ⟨a, b, rfl⟩
theorem len3 {rs : List Value} (h : rs.length = 3) : ∃ a b c, rs = [a, b, c] := by
 rcases rs with _ | ⟨a, _ | ⟨b, _ | ⟨c, _ | ⟨d, rs⟩⟩⟩⟩ <;> simp at h
 exact ⟨a, b, c, rfl⟩
theorem NApp.num0 (h : NApp w base g T0 cs v0 l0 p1 p2 rs W) (hlen : rs.length = 0) {v : Value} (ho : Own 5 W' W.heap.size v p1) (hL : Later W W') : NApp w base g T0 cs v0 l0 p1 p2 (rs ++ [v]) W' := by
 obtain rfl := List.eq_nil_of_length_eq_zero hlen
 obtain ⟨A, c, h1, _, _, h2⟩ := ho.slice
 exact ⟨h.1.later hL, h.2.later hL, A, c, h1, h2⟩
theorem NApp.num2 (h : NApp w base g T0 cs v0 l0 p1 p2 rs W) (hlen : rs.length = 2) {v : Value} (ho : Own 5 W' W.heap.size v p2) (hL : Later W W') : NApp w base g T0 cs v0 l0 p1 p2 (rs ++ [v]) W' := by
 obtain ⟨a, b, rfl⟩ := len2 hlen
 obtain ⟨A, c, h1, _, _, h2⟩ := ho.slice
 exact ⟨h.1.later hL, h.2.later hL, A, c, h1, h2⟩
theorem NApp.at1 (h : NApp w base g T0 cs v0 l0 p1 p2 rs W) (hlen : rs.length = 1) : ∃ n1 A c, rs = [n1] /\ GB w base g T0 cs W /\ Own 5 W base v0 l0 /\ n1 = .slice A p1.length c /\ Rd W A p1 := by
 obtain ⟨a, rfl⟩ := len1 hlen
 obtain ⟨h1, h2, A, c, h3, h4⟩ := h
 exact ⟨a, A, c, rfl, h1, h2, h3, h4⟩
theorem NApp.at3 (h : NApp w base g T0 cs v0 l0 p1 p2 rs W) (hlen : rs.length = 3) : ∃ n0 v1 n1 A c, rs = [n0, v1, n1] /\ GB w base g T0 cs W /\ Own 5 W base v1 (l0 ++ p1) /\ n1 = .slice A p2.length c /\ Rd W A p2 := by
 obtain ⟨a, b, d, rfl⟩ := len3 hlen
 obtain ⟨h1, h2, A, c, h3, h4⟩ := h
 exact ⟨a, b, d, A, c, rfl, h1, h2, h3, h4⟩
theorem NApp.put1 (h : NApp w base g T0 cs v0 l0 p1 p2 rs W) (hlen : rs.length = 1) {v u : Value} {k : List UInt8} (ho : Own 5 W' base v (l0 ++ p1)) (hgb : GB w base g T0 cs W) (hg : W.grownBy W' u.ownBlock) (hown : Own 5 W base u k) : NApp w base g T0 cs v0 l0 p1 p2 (rs ++ [v]) W' := by
 obtain ⟨a, rfl⟩ := len1 hlen
 exact ⟨hgb.put hown hg, ho⟩
theorem NApp.put3 (h : NApp w base g T0 cs v0 l0 p1 p2 rs W) (hlen : rs.length = 3) {v u : Value} {k : List UInt8} (ho : Own 5 W' base v (l0 ++ p1 ++ p2)) (hgb : GB w base g T0 cs W) (hg : W.grownBy W' u.ownBlock) (hown : Own 5 W base u k) : NApp w base g T0 cs v0 l0 p1 p2 (rs ++ [v]) W' := by
 obtain ⟨a, b, c, rfl⟩ := len3 hlen
 exact ⟨hgb.put hown hg, ho⟩
theorem NApp.fin {a b c d : Value} (h : NApp w base g T0 cs v0 l0 p1 p2 [a, b, c, d] W) : GB w base g T0 cs W /\ Own 5 W base d (l0 ++ p1 ++ p2) := h
end
theorem sliceHashO {g o : Nat} (W : World) : (Instr.sliceAt 25 (.pointer (some ⟨g, o, none⟩)) none none none).run Tryz.prog W = .ok (.slice (some ⟨g, o, none⟩) 32 32) W := by
 obtain ⟨i, hi0, hz, hs, hb⟩ := info_parts info5
 simp [Instr.sliceAt, run_underlying Tryz.underlying25, sizeOf, typeInfo, hi0, hs, go_sem]
theorem rd_key {w : World} {g : Nat} {t : TypeId} {h : Hop} (hw : h.wf) (hr : Row w g t (hopC h)) : Rd w (some ⟨g, 0, none⟩) h.key := fun _ =>
 ⟨g, 0, rfl, fun i hi => by
  have hi32 : i < 32 := by have := hw.1; omega
  rw [Nat.zero_add]
  exact (hr.cell i).trans ((hopC_key hw i hi32).trans (hC_get h.key i hi (Nat.le_of_eq hw.1)))⟩
theorem rd_next {w : World} {g : Nat} {t : TypeId} {h : Hop} (hw : h.wf) (hr : Row w g t (hopC h)) : Rd w (some ⟨g, 32, none⟩) h.next := fun _ =>
 ⟨g, 32, rfl, fun i hi => by
  have hi32 : i < 32 := by have := hw.2; omega
  exact (hr.cell (32 + i)).trans ((hopC_next hw i hi32).trans (hC_get h.next i hi (Nat.le_of_eq hw.2)))⟩
theorem own_void2 {W : World} {base : Nat} (hb : base <= W.heap.size) : Own 5 (W.alloc (.cells #[] 5)) base (.slice (some ⟨W.heap.size, 0, none⟩) 0 0) [] :=
 ⟨rfl, .inr ⟨W.heap.size, 0, #[], rfl, hb, heap_alloc_new W _, Nat.le_refl _, by decide, rfl, rfl⟩⟩
end Go.Proofs.YtloiaaolnfimgaaGreat
namespace Go.Proofs.YtloiaaolnfimgaaGreat
open Go.RowKit
namespace Rt
def body (h : Hop) (rest : List UInt8) : List UInt8 := h.next ++ Wr.nums [h.amt, h.exp] ++ (Wr.bytes rest.length ++ rest)
def sealedL (h : Hop) (rest : List UInt8) : List UInt8 := Hm.tag h.key (body h rest) ++ mask h.key (Hm.tag h.key (body h rest)) (body h rest)
theorem body_len {h : Hop} (hw : h.wf) (rest : List UInt8) : (body h rest).length <= rest.length + 60 := by
 have h1 := Wr.nums_len [h.amt, h.exp]
 have h2 := Wr.bytes_le rest.length
 unfold body
 simp only [List.length_append, hw.2]
 simp at h1
 omega
theorem sealedL_len {h : Hop} (hw : h.wf) (rest : List UInt8) : (sealedL h rest).length <= rest.length + 92 := by
 have h1 := body_len hw rest
 unfold sealedL
 rw [List.length_append, Hm.tag_len, mask_len]
 omega
end Rt
open Rt
theorem fRt0 {g o : Nat} {W : World} : (Instr.fieldAt 68 (.pointer (some ⟨g, o, none⟩)) 0).run Tryz.prog W = .ok (.pointer (some ⟨g, o, none⟩)) W := by go_simp
theorem buildHs10 (f : Nat -> Value) (w : World) : (Instr.buildSlice 170 1 #[(0, .agg ((List.range 32).map f).toArray)]).run Tryz.prog w = .ok (.slice (some ⟨w.heap.size, 0, none⟩) 1 1) (w.alloc (.cells ((List.range 32).map f).toArray 25)) := by kernel_rfl
theorem buildHs1 {a : List UInt8} (ha : a.length = 32) (w : World) : (Instr.buildSlice 170 1 #[(0, .agg (hC a))]).run Tryz.prog w = .ok (.slice (some ⟨w.heap.size, 0, none⟩) 1 1) (w.alloc (.cells (hC a) 25)) := by
 have h1 := arr_range (hC a) 32 (hC_size a (by omega))
 rw [h1]
 exact buildHs10 _ w
theorem rdH_one {a : List UInt8} (ha : a.length = 32) (w : World) : RdH (w.alloc (.cells (hC a) 25)) (some ⟨w.heap.size, 0, none⟩) [a] := fun _ => by
 have hr := Row.new w 25 (hC a)
 refine ⟨_, _, rfl, fun i hi j v hj => ?_⟩
 obtain rfl : i = 0 := by simp at hi; omega
 refine (hr.cell _).trans ?_
 rw [show 0 + 0 * 32 + j = j by omega]
 simpa using hj
theorem sealed_any (h : Hop) (hw : h.wf) (hok : paid h.amt h.exp = true) (rest : List UInt8) (hrest : rest.length <= 1000) (w : World) : Calls Tryz.prog 26 #[.agg (hopC h), .string ⟨rest.toArray⟩] w fun e w' => e = .returned (.string ⟨(sealedL h rest).toArray⟩) /\ Below w.heap.size w w' := by
 refine Calls.post fun Φ HΦ => ?_
 have hbx := boxHopR hw w
 have hr := Row.new w 68 (hopC h)
 have hL : Later w (w.alloc (.cells (hopC h) 68)) := below_new w _
 have hnew := fun W => wnew_any W
 have HL := Lib.hid hL
 have HOK := Lib.hid hok
 clear hL hok
 go_enter Tryz.func26, Tryz.ntmps26
 go_upto_region 2 with (first
  | (guard_target =~ wpList _ _ _ (_ :: _) _ _; refine wpList_box rfl 68 (.tmp 0) rfl (.agg (hopC h)) rfl hbx ?_)
  | (go_at_call 54; refine (hnew _).mono ?_; rintro e w3 ⟨rfl, hw3, hL3, hlt3⟩)
  | fail)
 obtain ⟨g0, hg0⟩ : ∃ g, g = w.heap.size := ⟨_, rfl⟩
 obtain ⟨gw, hgw⟩ : ∃ g, g = (w.alloc (.cells (hopC h) 68)).heap.size := ⟨_, rfl⟩
 try simp only [World.size_alloc] at hw3 hlt3 hgw ⊢
 rw [<- hgw] at hw3 ⊢
 rw [<- hg0] at hr ⊢
 have hr3 := hr.later hL3
 have HL3 : Hid (Later w w3) := Lib.hid (HL.out.step hL3)
 have hgg : g0 ≠ gw := by omega
 have hgw0 : w.heap.size <= gw := by omega
 have hn3 := loadNextR hw hr3
 have hbs := buildHs1 hw.2 w3
 have L4 : Later w3 (w3.alloc (.cells (hC h.next) 25)) := below_new w3 _
 have hrd4 := rdH_one hw.2 w3
 have hw4 := hw3.later L4
 have hlt3' := hw3.lt.1
 have hcH := wHash_any gw none [] (some ⟨w3.heap.size, 0, none⟩) 1 1 [h.next] _ rfl (by decide) (fun x hx => by simp at hx; rw [hx]; exact hw.2) (by simp) hrd4 (fun b o e _ => by injection e with e; injection e with e1 e2; subst e1; exact ⟨by omega, by simp⟩) hw4
 clear hw3 hrd4 hw4 hg0 hgw hlt3 hL3 hr
 go_upto_region 3 with (first
  | (guard_target =~ wpList _ _ _ (_ :: _) _ _; refine wpList_field rfl 68 (.tmp 2) 0 rfl (.pointer (some ⟨g0, 0, none⟩)) rfl fRt0 ?_)
  | (guard_target =~ wpList _ _ _ (_ :: _) _ _; refine wpList_field rfl 27 (.tmp 9) 1 rfl (.pointer (some ⟨g0, 0, none⟩)) rfl fHop1 ?_)
  | (guard_target =~ wpList _ _ _ (_ :: _) _ _; refine wpList_load rfl 25 (.tmp 10) rfl (.pointer (some ⟨g0, 32, none⟩)) rfl hn3 ?_)
  | (guard_target =~ wpList _ _ _ (_ :: _) _ _; refine wpList_buildSl rfl 170 1 #[(0, .tmp 11)] rfl #[(0, .agg (hC h.next))] (by simp only [List.map_toArray, List.map_cons, List.map_nil]; rfl) hbs ?_; simp only [Act.put, List.setIfInBounds_toArray, List.set_cons_zero, List.set_cons_succ])
  | (go_at_call 55; refine hcH.mono ?_; clear hcH; rintro e w5 ⟨rfl, r5, hw5, hwr5⟩)
  | fail)
 have hr4 := hr3.later L4
 have hr5 := hr4.same hwr5.1 ⟨hr4.lt, hgg, by simp⟩
 have c64 := cHop2 hw hr5
 have c65 := cHop3 hw hr5
 have hl5 := hw5.lt
 have L6 : Later w5 (w5.alloc (.cells #[.int .i64 h.amt, .int .i64 h.exp] 2)) := below_new w5 _
 have hbi := buildI2 h.amt h.exp w5
 have hwg : [h.amt, h.exp].any Wr.wrong = false := by
  have := HOK.out
  unfold paid at this
  simp only [Bool.and_eq_true, decide_eq_true_eq] at this
  simp [Wr.wrong]
  omega
 have hl32 : ([] ++ [h.next].flatten).length = 32 := by simp [hw.2]
 have hcN := wNumber_any gw r5 _ (some ⟨w5.heap.size, 0, none⟩) 2 2 [h.amt, h.exp] _ rfl (by decide) (by rw [hl32]; decide) (rdI_two h.amt h.exp w5) (fun b o e _ => by injection e with e; injection e with e1 e2; subst e1; exact ⟨by have := hl5.1; omega, fun e3 => by have := hl5.2 _ e3.symm; omega⟩) (hw5.later L6)
 rw [hwg] at hcN
 clear hn3 hbs
 go_upto_region 4 with (first
  | (guard_target =~ wpList _ _ _ (_ :: _) _ _; refine wpList_field rfl 68 (.tmp 2) 0 rfl (.pointer (some ⟨g0, 0, none⟩)) rfl fRt0 ?_)
  | (guard_target =~ wpList _ _ _ (_ :: _) _ _; refine wpList_field rfl 27 (.tmp 15) 2 rfl (.pointer (some ⟨g0, 0, none⟩)) rfl fHop2 ?_)
  | (guard_target =~ wpList _ _ _ (_ :: _) _ _; refine wpList_field rfl 27 (.tmp 18) 3 rfl (.pointer (some ⟨g0, 0, none⟩)) rfl fHop3 ?_)
  | (guard_target =~ wpList _ _ _ (_ :: _) _ _; refine wpList_buildSl rfl 101 2 #[(0, .tmp 17), (1, .tmp 20)] rfl #[(0, .int .i64 h.amt), (1, .int .i64 h.exp)] (by simp only [List.map_toArray, List.map_cons, List.map_nil]; rfl) hbi ?_; simp only [Act.put, List.setIfInBounds_toArray, List.set_cons_zero, List.set_cons_succ])
  | (go_at_call 56; refine hcN.mono ?_; clear hcN; rintro e w7 h7; obtain ⟨-, rfl, r7, hw7, hwr7⟩ := h7.resolve_left (fun h => Bool.noConfusion h.1))
  | fail)
 have hr7 : Row w7 g0 68 (hopC h) := by
  have h6 := hr5.later L6
  exact h6.same hwr7.1 ⟨h6.lt, hgg, fun e => (hwr5.2 _ e.symm).elim (fun h => nomatch h) (fun h => by have := hr4.lt; omega)⟩
 have hnl := Wr.nums_len [h.amt, h.exp]
 have hl7 : ([] ++ [h.next].flatten ++ Wr.nums [h.amt, h.exp]).length <= 100 := by
  rw [List.length_append, hl32]
  simp at hnl ⊢
  omega
 have hcT := wText_any gw r7 _ rest w7 (by omega) (by omega) hw7
 have hraw : ([] ++ [h.next].flatten ++ Wr.nums [h.amt, h.exp] ++ (Wr.bytes rest.length ++ rest)) = body h rest := by simp [body]
 rw [hraw] at hcT
 have H7w : Hid (∀ k, r7 = some k -> w.heap.size <= k /\ k ≠ g0) := Lib.hid fun k e => by
  have h5 : ∀ k, r5 = some k -> w.heap.size <= k /\ k ≠ g0 := fun k e => (hwr5.2 _ e).elim (fun h => nomatch h) (fun h => by have := HL3.out.size; have := L4.size; have := hr3.lt; exact ⟨by omega, by omega⟩)
  exact (hwr7.2 _ e).elim (fun h => h5 k h) (fun h => by have := HL3.out.size; have := L4.size; have := hwr5.1.size; have := L6.size; have := hr5.lt; exact ⟨by omega, by omega⟩)
 have hS7 : Below w.heap.size w w7 := by
  have s3 := Same.of_below HL3.out.below
  have s5 : Same (fun k => k < w.heap.size) w3 w5 := (Same.of_below L4.below |>.mono fun k hk => Nat.lt_of_lt_of_le hk HL3.out.size).trans (hwr5.1.mono fun k hk => ⟨by have := HL3.out.size; have := L4.size; omega, by omega, fun e => by cases e⟩)
  have s7 : Same (fun k => k < w.heap.size) w5 w7 := (Same.of_below L6.below |>.mono fun k hk => by have := HL3.out.size; have := s5.size; omega).trans (hwr7.1.mono fun k hk => ⟨by have := HL3.out.size; have := s5.size; have := L6.size; omega, by omega, fun e => (hwr5.2 _ e.symm).elim (fun h => nomatch h) (fun h => by have := HL3.out.size; have := L4.size; omega)⟩)
  exact (s3.trans (s5.trans s7)).below
 clear hr4 hr5 c64 c65 hl5 hbi hnl hl7 hl32 hwg hr3 L6
 go_upto_region 5 with (first
  | (go_at_call 72; refine hcT.mono ?_; clear hcT; rintro e w8 h8; obtain ⟨-, rfl, r8, hw8, hwr8⟩ := h8.resolve_left (fun h => by omega))
  | fail)
 have hr8 : Row w8 g0 68 (hopC h) := hr7.same hwr8.1 ⟨hr7.lt, hgg, fun e => (H7w.out _ e.symm).2 rfl⟩
 have hS8 : Below w.heap.size w w8 := by
  have s8 : Same (fun k => k < w.heap.size) w7 w8 := hwr8.1.mono fun k hk => ⟨by have := hS7.size; omega, by omega, fun e => by have := (H7w.out _ e.symm).1; omega⟩
  exact ((Same.of_below hS7).trans s8).below
 have hbl := body_len hw rest
 have hbl2 : (body h rest).length <= 1100 := by omega
 obtain ⟨B, hB⟩ : ∃ b, body h rest = b := ⟨_, rfl⟩
 obtain ⟨nb, hnb⟩ : ∃ n, B.length = n := ⟨_, rfl⟩
 obtain ⟨T, hT⟩ : ∃ t, Hm.tag h.key B = t := ⟨_, rfl⟩
 have hTl : T.length = 32 := by rw [<- hT]; exact Hm.tag_len _ _
 have HBL : Hid (sealedL h rest = T ++ mask h.key T B) := Lib.hid (by unfold sealedL; rw [hB, hT])
 have HML : Hid ((mask h.key T B).length = nb) := Lib.hid (by rw [mask_len, hnb])
 rw [hB] at hw8 hbl2
 clear hB hraw hbl
 have hall : ∀ W, Later w8 W -> Calls Tryz.prog 58 #[.pointer (some ⟨gw, 0, none⟩)] W fun e w' => ∃ v, e = .returned v /\ Own 5 w' W.heap.size v B /\ Later W w' := fun W hL => wall_any gw r8 B W (by omega) (hw8.later hL)
 have hrdk := rd_key hw hr8
 have htag : ∀ W', Later w8 W' -> ∀ g, RdsC W' (some ⟨g, 0, none⟩) [B] -> Calls Tryz.prog 73 #[.slice (some ⟨g0, 0, none⟩) 32 32, .slice (some ⟨g, 0, none⟩) 1 1] W' fun e w' => e = .returned (.agg (hC T)) /\ Below W'.heap.size W' w' := fun W' hL g hr => by
  have h1 := hmTag_any (some ⟨g0, 0, none⟩) 32 32 h.key (some ⟨g, 0, none⟩) 1 1 [B] W' hw.1 (by decide) (by decide) (by decide) (hrdk.later hL) rfl (by decide) (by simp; omega) hr
  rw [show [B].flatten = B by simp, hT] at h1
  exact h1
 have HN := Lib.hid hnb
 have HT := Lib.hid hTl
 have HS8 := Lib.hid hS8
 have HBB := Lib.hid hbl2
 clear hnb hTl hT hS8 hS7 hr7 hw7 hwr7 hwr5 hw5 HL HL3 H7w hwr8 hbl2 hrest hlt3' hgg hgw0 hbx HOK
 rename_i K hK
 have HK := Lib.hid hK
 clear hK
 refine (wpIn_wide (n := 0)).1 ?_
 refine wpIn_region_last wide_wide [Pr.eq (.pointer (some ⟨g0, 0, none⟩)), Pr.eq (.pointer (some ⟨g0, 0, none⟩)), Pr.eq (.slice (some ⟨g0, 0, none⟩) 32 32), Pr.eq (.pointer (some ⟨gw, 0, none⟩)), Pr.slM nb B, Pr.rowsC 1 [B], Pr.eq (.agg (hC T)), Pr.newT w8.heap.size 25 (fun cs => cs = hC [])] (by kernel_rfl) (by kernel_rfl) (by kernel_rfl) (by kernel_rfl) (by kernel_rfl) (by kernel_rfl) rfl ⟨?_, ?_, ?_, ?_, ?_, ?_, ?_, ?_, trivial⟩ ?_
 ·exact fun ac W hL he => stepOk_want rfl (op_fieldAddr rfl (he.k 2) fRt0 rfl)
 ·exact fun ac W hL he => stepOk_want rfl (op_fieldAddr rfl (he.g 0 26) fHop0 rfl)
 ·exact fun ac W hL he => stepOk_want rfl (op_slice (W' := W) rfl (he.g 1 27) (rfl : _ = none) (rfl : _ = none) rfl (sliceHash W) rfl)
 ·exact fun ac W hL he => stepOk_want rfl (op_move rfl (he.k 5))
 ·intro ac W hL he; refine stepOk_want rfl ?_; have e0 : ac.eval (.tmp 29) = .pointer (some ⟨gw, 0, none⟩) := he.g 3 29; exact op_callF (vs := #[.pointer (some ⟨gw, 0, none⟩)]) rfl (by simp only [List.map_toArray, List.map_cons, List.map_nil, e0]) (enters_of Tryz.func58 (by kernel_rfl) rfl) ((hall W hL).mono fun e W' ⟨v, he', ho, hb⟩ => ⟨_, he', hb, by obtain ⟨S, c, e5, h5, h5m, h6⟩ := ho.slice; rw [HN.out] at e5 h5; exact ⟨S, c, e5, h5, h5m, h6⟩⟩)
 ·intro ac W hL he; refine stepOk_want rfl ?_; obtain ⟨S, cS, e0, h1, h2, h3⟩ : (Pr.slM nb B).R (ac.eval (.tmp 30)) W := he.g 4 30; exact op_buildSlice (vs := #[(0, .slice S nb cS)]) rfl (by simp only [List.map_toArray, List.map_cons, List.map_nil, e0]) (build1Sg W S nb cS) (below_new W _) ⟨_, rfl, RdsC.one 60 rfl h3 HN.out h1 h2⟩
 ·intro ac W hL he; refine stepOk_want rfl ?_; have e0 : ac.eval (.tmp 28) = .slice (some ⟨g0, 0, none⟩) 32 32 := he.g 2 28; obtain ⟨gR, e2, hRR⟩ : (Pr.rowsC 1 [B]).R (ac.eval (.tmp 31)) W := he.g 5 31; exact op_callF (vs := #[.slice (some ⟨g0, 0, none⟩) 32 32, .slice (some ⟨gR, 0, none⟩) 1 1]) rfl (by simp only [List.map_toArray, List.map_cons, List.map_nil, e0, e2]) (enters_of Tryz.func73 (by kernel_rfl) rfl) ((htag W hL gR hRR).mono fun e W' ⟨he', hb⟩ => ⟨_, he', hb, rfl⟩)
 ·exact fun ac W hL he => stepOk_want rfl (op_alloc rfl (allocH W) (below_new W _) ⟨W.heap.size, _, rfl, hL.size, rfl, Row.new W _ _⟩)
 intro xs W hL hx hk hgt
 obtain ⟨gT, cs, v7, hgT, rfl, hrT⟩ : (Pr.newT w8.heap.size 25 (fun cs => cs = hC [])).R (xs 7) W := hx 7 (by decide)
 have v6 : xs 6 = .agg (hC T) := hx 6 (by decide)
 obtain ⟨W9, hst, hrT9, hgr9⟩ := storeH (b := T) (by simp) (Nat.le_of_eq HT.out) hrT
 refine last_store rfl rfl ((hgt 7 6 (by decide) (by kernel_rfl)).trans v7) ((hgt 6 32 (by decide) (by kernel_rfl)).trans v6) hst ?_
 have hL9 : Later w8 W9 := Below.grown hL hgr9 hL.size (fun j e => by cases e; exact hgT)
 simp only [initL, lastL, putL, Nat.reduceAdd, Act.put, List.setIfInBounds_toArray, List.set_cons_succ, List.set_cons_zero]
 rw [v7]
 have hr9 := hr8.later hL9
 have hw9 := hw8.later hL9
 have hS9 : Hid (Below w.heap.size w W9) := Lib.hid (HS8.out.trans (hL9.below.mono HS8.out.size))
 clear hx hk hgt v7 v6 hst hgr9 hrT hL hall htag hrdk hr8 hw8 hL9 HS8
 refine HK.out _ _ ?_
 have hrt := rd_hash HT.out hrT9
 have hky := loadKeyR hw hr9
 have hkyL : ∀ W, Later W9 W -> (Instr.loadAt 25 (.pointer (some ⟨g0, 0, none⟩))).run Tryz.prog W = .ok (.agg (hC h.key)) W := fun W hL => loadKeyR hw (hr9.later hL)
 have hall : ∀ W, Later W9 W -> Calls Tryz.prog 58 #[.pointer (some ⟨gw, 0, none⟩)] W fun e w' => ∃ v, e = .returned v /\ Own 5 w' W.heap.size v B /\ Later W w' := fun W hL => wall_any gw r8 B W (by have := HBB.out; omega) (hw9.later hL)
 obtain ⟨M, hM⟩ : ∃ m, mask h.key T B = m := ⟨_, rfl⟩
 have hmask : ∀ W S c, Rd W S B -> Calls Tryz.prog 33 #[.agg (hC h.key), .agg (hC T), .slice S nb c] W fun e w' => ∃ v, e = .returned v /\ Own 5 w' W.heap.size v M /\ Below W.heap.size W w' := fun W S c hr => by
  rw [<- hM]
  exact masked_any h.key T S nb c B W hw.1 HT.out HN.out (by have := HN.out; have := HBB.out; omega) hr
 rw [hM] at HML HBL
 have hadd := fun W => run_str_add T M (by rw [HT.out, HML.out]; have := HN.out; have := HBB.out; omega) W
 clear hM hky
 go_upto_region 6 with fail
 refine wp_region_list [Pr.eq (.slice (some ⟨gT, 0, none⟩) 32 32), Pr.eq (.string ⟨T.toArray⟩), Pr.eq (.pointer (some ⟨g0, 0, none⟩)), Pr.eq (.pointer (some ⟨g0, 0, none⟩)), Pr.eq (.agg (hC h.key)), Pr.eq (.agg (hC T)), Pr.eq (.pointer (some ⟨gw, 0, none⟩)), Pr.slM nb B, Pr.slM nb M, Pr.eq (.string ⟨M.toArray⟩), Pr.eq (.string ⟨(T ++ M).toArray⟩), Pr.eq (.string ⟨(T ++ M).toArray⟩)] (by kernel_rfl) (by kernel_rfl) (by kernel_rfl) (by kernel_rfl) ⟨?_, ?_, ?_, ?_, ?_, ?_, ?_, ?_, ?_, ?_, ?_, ?_, trivial⟩ ?_
 ·exact fun ac W hL he => stepOk_want rfl (op_slice (W' := W) rfl (he.k 6) (rfl : _ = none) (rfl : _ = none) rfl (sliceHash W) rfl)
 ·exact fun ac W hL he => stepOk_want rfl (op_convert rfl (he.g 0 33) (run_string_rd W 60 9 5 _ 32 32 T Tryz.underlying60 Tryz.underlying5 Tryz.underlying9 HT.out (hrt.later hL)) (Later.refl _) rfl)
 ·exact fun ac W hL he => stepOk_want rfl (op_fieldAddr rfl (he.k 2) fRt0 rfl)
 ·exact fun ac W hL he => stepOk_want rfl (op_fieldAddr rfl (he.g 2 35) fHop0 rfl)
 ·exact fun ac W hL he => stepOk_want rfl (op_load rfl (he.g 3 36) (hkyL W hL) rfl)
 ·exact fun ac W hL he => stepOk_want rfl (op_load rfl (he.k 6) (loadH HT.out (hrT9.later hL)) rfl)
 ·exact fun ac W hL he => stepOk_want rfl (op_move rfl (he.k 5))
 ·intro ac W hL he; refine stepOk_want rfl ?_; have e0 : ac.eval (.tmp 39) = .pointer (some ⟨gw, 0, none⟩) := he.g 6 39; exact op_callF (vs := #[.pointer (some ⟨gw, 0, none⟩)]) rfl (by simp only [List.map_toArray, List.map_cons, List.map_nil, e0]) (enters_of Tryz.func58 (by kernel_rfl) rfl) ((hall W hL).mono fun e W' ⟨v, he', ho, hb⟩ => ⟨_, he', hb, by obtain ⟨S, c, e5, h5, h5m, h6⟩ := ho.slice; rw [HN.out] at e5 h5; exact ⟨S, c, e5, h5, h5m, h6⟩⟩)
 ·intro ac W hL he; refine stepOk_want rfl ?_; have e0 : ac.eval (.tmp 37) = .agg (hC h.key) := he.g 4 37; have e1 : ac.eval (.tmp 38) = .agg (hC T) := he.g 5 38; obtain ⟨S, cS, e2, h1, h2, h3⟩ : (Pr.slM nb B).R (ac.eval (.tmp 40)) W := he.g 7 40; exact op_callF (vs := #[.agg (hC h.key), .agg (hC T), .slice S nb cS]) rfl (by simp only [List.map_toArray, List.map_cons, List.map_nil, e0, e1, e2]) (enters_of Tryz.func33 (by kernel_rfl) rfl) ((hmask W S cS h3).mono fun e W' ⟨v, he', ho, hb⟩ => ⟨_, he', hb, by obtain ⟨S2, c2, e5, h5, h5m, h6⟩ := ho.slice; rw [HML.out] at e5 h5; exact ⟨S2, c2, e5, h5, h5m, h6⟩⟩)
 ·intro ac W hL he; refine stepOk_want rfl ?_; obtain ⟨S, cS, e0, h1, h2, h3⟩ : (Pr.slM nb M).R (ac.eval (.tmp 41)) W := he.g 8 41; exact op_convert rfl e0 (run_string_rd W 60 9 5 _ nb cS M Tryz.underlying60 Tryz.underlying5 Tryz.underlying9 HML.out h3) (Later.refl _) rfl
 ·exact fun ac W hL he => stepOk_want rfl (op_binOp rfl (he.g 1 34) (he.g 9 42) (eqg_any rfl) (hadd W) rfl)
 ·exact fun ac W hL he => stepOk_want rfl (op_assign rfl (he.g 10 43))
 intro xs W hL hx
 have v11 : xs 11 = .string ⟨(T ++ M).toArray⟩ := hx 11 (by decide)
 simp only [putL, Nat.reduceAdd, Act.put, List.setIfInBounds_toArray, List.set_cons_succ, List.set_cons_zero]
 rw [v11]
 clear hx v11 hadd hmask hall hkyL hrt
 have hEND : Hid (Below w.heap.size w W) := Lib.hid (hS9.out.trans (hL.below.mono hS9.out.size))
 clear hL
 go_wp2_with fail
 exact HΦ.out _ _ ⟨by rw [HBL.out]; rfl, hEND.out⟩
end Go.Proofs.YtloiaaolnfimgaaGreat
namespace Go.Proofs.YtloiaaolnfimgaaGreat
open Go.RowKit Rt
theorem refSealed_any (h : Hop) (hwf : h.wf) (hok : paid h.amt h.exp = true) (rest : List UInt8) (hrest : rest.length <= 1000) (w : World) : Calls Tryz.prog 29 #[.agg (hopC h), .string ⟨rest.toArray⟩] w fun e w' => e = .returned (.string ⟨(sealedL h rest).toArray⟩) /\ Below w.heap.size w w' := by
 refine Calls.post fun Φ HΦ => ?_
 have hbx := boxHopA hwf w
 have hr := Row.new w 27 (hopC h)
 have hL : Later w (w.alloc (.cells (hopC h) 27)) := below_new w _
 have HL := Lib.hid hL
 have HOK := Lib.hid hok
 have hlt := hr.lt
 clear hL hok
 go_enter Tryz.func29, Tryz.ntmps29
 go_upto_region 1 with (first
  | (guard_target =~ wpList _ _ _ (_ :: _) _ _; refine wpList_box rfl 27 (.tmp 0) rfl (.agg (hopC h)) rfl hbx ?_)
  | fail)
 obtain ⟨g, hg⟩ : ∃ g, g = w.heap.size := ⟨_, rfl⟩
 have hsz1 : (w.alloc (.cells (hopC h) 27)).heap.size = g + 1 := by rw [hg]; simp
 rw [<- hg] at hr hlt ⊢
 have HG := Lib.hid hg
 clear hbx hg
 generalize w.alloc (.cells (hopC h) 27) = w1 at *
 have hGB : GB w1 (g + 1) g 27 (hopC h) (w1.alloc (.cells #[] 5)) := ⟨(Below.refl _ _).alloc (by omega) _, hr.alloc _, by simp only [World.size_alloc]; omega, Nat.lt_succ_self g⟩
 have hown1 : Own 5 (w1.alloc (.cells #[] 5)) (g + 1) (.slice (some ⟨w1.heap.size, 0, none⟩) 0 0) [] := own_void2 (by omega)
 have hle1 : g + 1 <= (w1.alloc (.cells #[] 5)).heap.size := by simp only [World.size_alloc]; omega
 have HSZ := Lib.hid hsz1
 clear hsz1
 have hrn := rd_next hwf (hr.alloc (.cells #[] 5))
 go_upto_region 2 with (first
  | (guard_target =~ wpList _ _ _ (_ :: _) _ _; refine wpList_field rfl 27 (.tmp 2) 1 rfl (.pointer (some ⟨g, 0, none⟩)) rfl fHop1 ?_)
  | (guard_target =~ wpList _ _ _ (_ :: _) _ _; refine wpList_slice0 rfl 25 (.tmp 8) rfl (.pointer (some ⟨g, 32, none⟩)) rfl (sliceHashO _) ?_)
  | (at_builtin; refine wpList_append_bytes rfl (.tmp 7) (.tmp 9) 60 rfl (g + 1) 5 Tryz.underlying60 byteInfo _ [] rfl hown1 (some ⟨g, 32, none⟩) 32 32 h.next rfl hwf.2 hrn (by decide) hle1 ?_; intro v0 W3 hown3 hg3 hat3)
  | fail)
 have hGB3 := hGB.put hown1 hg3
 obtain ⟨l0, hl00⟩ : ∃ l, [] ++ h.next = l := ⟨_, rfl⟩
 have hl0 : l0.length = 32 := by rw [<- hl00]; simp [hwf.2]
 rw [hl00] at hown3
 have HL0 := Lib.hid hl00
 clear hl00 hGB hown1 hrn hg3 hr hlt
 have hoi := HOK.out
 unfold paid at hoi
 simp only [Bool.and_eq_true, decide_eq_true_eq] at hoi
 have hna : ∀ W, Calls Tryz.prog 63 #[.int .i64 h.amt] W fun e w' => ∃ v', e = .returned v' /\ Own 5 w' W.heap.size v' (Wr.nb h.amt) /\ Later W w' := fun W => by
  have h1 := refNumber_any h.amt.toNat W (by omega)
  rwa [<- Wr.nb_nat, Int.toNat_of_nonneg (by omega)] at h1
 have hnx : ∀ W, Calls Tryz.prog 63 #[.int .i64 h.exp] W fun e w' => ∃ v', e = .returned v' /\ Own 5 w' W.heap.size v' (Wr.nb h.exp) /\ Later W w' := fun W => by
  have h1 := refNumber_any h.exp.toNat W (by omega)
  rwa [<- Wr.nb_nat, Int.toNat_of_nonneg (by omega)] at h1
 clear hoi
 try simp only [initL, lastL, putL, Nat.reduceAdd, Act.put, List.setIfInBounds_toArray, List.set_cons_succ, List.set_cons_zero]
 rename_i K hK
 have HK := Lib.hid hK
 clear hK
 refine (wpIn_wide (n := 0)).1 ?_
 refine wpIn_region_cv wide_wide [v0, .pointer (some ⟨g, 64, none⟩), .int .i64 h.amt, undef, undef, .pointer (some ⟨g, 65, none⟩), .int .i64 h.exp, undef, undef] [3, 4, 7, 8] (NApp w1 (g + 1) g 27 (hopC h) v0 l0 (Wr.nb h.amt) (Wr.nb h.exp)) (fun rs W W' hL h => NApp.later h hL) ⟨hGB3, hown3⟩ (by kernel_rfl) (by kernel_rfl) (by kernel_rfl) (by kernel_rfl) (by kernel_rfl) (by kernel_rfl) rfl (by decide) (by kernel_rfl) ⟨?_, ?_, ?_, ?_, ?_, ?_, ?_, ?_, ?_, trivial⟩ ?_
 ·exact cvStep_val (by decide) (fun ac W rs he hA => stepOk_want rfl (op_move rfl (he.k 5)))
 ·exact cvStep_val (by decide) (fun ac W rs he hA => stepOk_want rfl (op_fieldAddr rfl (he.k 2) fHop2 rfl))
 ·exact cvStep_val (by decide) (fun ac W rs he hA => stepOk_want rfl (op_load rfl (show ac.eval (.tmp 12) = .pointer (some ⟨g, 64, none⟩) from he.v 1 12) (ldI64 (cHop2 hwf (NApp.gb hA).src)) rfl))
 ·refine cvStep_put (k := 0) (by decide) (.inl rfl) (fun ac W rs hlen he hA => ⟨rfl, ?_⟩)
  have e1 : ac.eval (.tmp 13) = .int .i64 h.amt := he.v 2 13
  refine op_callFK (vs := #[.int .i64 h.amt]) rfl (by simp only [List.map_toArray, List.map_cons, List.map_nil, e1]) (enters_of Tryz.func63 (by kernel_rfl) rfl) ((hna W).mono fun e W' ⟨v, he', ho, hL⟩ => ⟨v, he', v, rfl, ?_⟩)
  exact NApp.num0 hA hlen ho hL
 ·refine cvStep_put (k := 1) (by decide) (.inr (by kernel_rfl)) (fun ac W rs hlen he hA => ⟨rfl, ?_⟩)
  obtain ⟨n1, A1, c1, hrs, hgb, hown, hn1, hrd⟩ := NApp.at1 hA hlen
  have e0 : ac.eval (.tmp 11) = v0 := he.v 0 11
  have e1 : ac.eval (.tmp 14) = .slice A1 _ c1 := (he.res 0 14 (by decide) (by kernel_rfl) rfl).trans (by rw [hrs]; exact hn1)
  exact op_append_bytes _ _ 60 rfl (g + 1) 5 Tryz.underlying60 byteInfo _ _ e0 hown A1 _ c1 _ e1 rfl hrd (by have := Wr.nb_le h.amt; omega) hgb.sz (fun v' w' ho hg _ => ⟨v', rfl, NApp.put1 hA hlen ho hgb hg hown⟩)
 ·exact cvStep_val (by decide) (fun ac W rs he hA => stepOk_want rfl (op_fieldAddr rfl (he.k 2) fHop3 rfl))
 ·exact cvStep_val (by decide) (fun ac W rs he hA => stepOk_want rfl (op_load rfl (show ac.eval (.tmp 16) = .pointer (some ⟨g, 65, none⟩) from he.v 5 16) (ldI64 (cHop3 hwf (NApp.gb hA).src)) rfl))
 ·refine cvStep_put (k := 2) (by decide) (.inr (by kernel_rfl)) (fun ac W rs hlen he hA => ⟨rfl, ?_⟩)
  have e1 : ac.eval (.tmp 17) = .int .i64 h.exp := he.v 6 17
  refine op_callFK (vs := #[.int .i64 h.exp]) rfl (by simp only [List.map_toArray, List.map_cons, List.map_nil, e1]) (enters_of Tryz.func63 (by kernel_rfl) rfl) ((hnx W).mono fun e W' ⟨v, he', ho, hL⟩ => ⟨v, he', v, rfl, ?_⟩)
  exact NApp.num2 hA hlen ho hL
 ·refine cvStep_put (k := 3) (by decide) (.inr (by kernel_rfl)) (fun ac W rs hlen he hA => ⟨rfl, ?_⟩)
  obtain ⟨n0, v1, n1, A1, c1, hrs, hgb, hown, hn1, hrd⟩ := NApp.at3 hA hlen
  have e0 : ac.eval (.tmp 15) = v1 := (he.res 1 15 (by decide) (by kernel_rfl) rfl).trans (by rw [hrs]; rfl)
  have e1 : ac.eval (.tmp 18) = .slice A1 _ c1 := (he.res 2 18 (by decide) (by kernel_rfl) rfl).trans (by rw [hrs]; exact hn1)
  exact op_append_bytes _ _ 60 rfl (g + 1) 5 Tryz.underlying60 byteInfo _ _ e0 hown A1 _ c1 _ e1 rfl hrd (by have := Wr.nb_le h.amt; have := Wr.nb_le h.exp; rw [List.length_append]; omega) hgb.sz (fun v' w' ho hg _ => ⟨v', rfl, NApp.put3 hA hlen ho hgb hg hown⟩)
 intro xs W hA hx hk2 hgt
 obtain ⟨hgb4, hown4⟩ := NApp.fin hA
 refine last_assign rfl (hgt 8 19 (by decide) (by kernel_rfl)) ?_
 clear hx hk2 hgt hA
 simp only [initL, lastL, putL, Nat.reduceAdd, Act.put, List.setIfInBounds_toArray, List.set_cons_succ, List.set_cons_zero]
 have hraw : l0 ++ Wr.nb h.amt ++ Wr.nb h.exp = h.next ++ Wr.nums [h.amt, h.exp] := by rw [<- HL0.out]; simp [Wr.nums]
 rw [hraw] at hown4
 obtain ⟨v5, hv5⟩ : ∃ v, xs 8 = v := ⟨_, rfl⟩
 rw [hv5] at hown4 ⊢
 clear hv5 hraw hGB3 hown3 hna hnx
 refine HK.out _ _ ?_
 clear HK
 have htx := refText_any rest W (by omega)
 obtain ⟨l1, hl1⟩ : ∃ l, h.next ++ Wr.nums [h.amt, h.exp] = l := ⟨_, rfl⟩
 obtain ⟨l2, hl2⟩ : ∃ l, Wr.bytes rest.length ++ rest = l := ⟨_, rfl⟩
 have hbl := body_len hwf rest
 have hbd : body h rest = l1 ++ l2 := by rw [<- hl1, <- hl2]; rfl
 have hle1 : l1.length + l2.length <= 1100 := by rw [hbd, List.length_append] at hbl; omega
 obtain ⟨m2, hm2⟩ : ∃ n, l2.length = n := ⟨_, rfl⟩
 rw [hl1] at hown4
 rw [hl2] at htx
 have HBD := Lib.hid hbd
 have HM2 := Lib.hid hm2
 have HLE := Lib.hid hle1
 have hsz5 := hgb4.sz
 clear hl1 hl2 hbl hbd hm2 hle1
 go_upto_region 4 with (first
  | (go_at_call 75; refine htx.mono ?_; clear htx; rintro e w6 ⟨v6, rfl, hown6, hL6⟩; obtain ⟨A6, c6, rfl, -, -, hrd6⟩ := hown6.slice; rw [HM2.out])
  | (at_builtin; refine wpList_append_bytes rfl (.tmp 20) (.tmp 22) 60 rfl (g + 1) 5 Tryz.underlying60 byteInfo v5 l1 rfl (hown4.later hL6) A6 m2 c6 l2 rfl HM2.out hrd6 (by have := HLE.out; have := HM2.out; omega) (Nat.le_trans hsz5 hL6.size) ?_; intro v7 w7 hown7 hg7 hat7)
  | fail)
 have hgb7 := (hgb4.later hL6).put (hown4.later hL6) hg7
 obtain ⟨B, hB⟩ : ∃ b, l1 ++ l2 = b := ⟨_, rfl⟩
 rw [hB] at hown7
 have hbd := HBD.out
 rw [hB] at hbd
 obtain ⟨nb, hnb⟩ : ∃ n, B.length = n := ⟨_, rfl⟩
 have hnbl : nb <= 1100 := by have := HLE.out; rw [<- hnb, <- hB, List.length_append]; omega
 obtain ⟨S, cS, e7, hSc, hScm, hrS⟩ := hown7.slice
 rw [hnb] at e7 hSc
 subst e7
 obtain ⟨T, hT⟩ : ∃ t, Hm.tag h.key B = t := ⟨_, rfl⟩
 have hTl : T.length = 32 := by rw [<- hT]; exact Hm.tag_len _ _
 obtain ⟨M, hM⟩ : ∃ m, mask h.key T B = m := ⟨_, rfl⟩
 have hMl : M.length = nb := by rw [<- hM, mask_len, hnb]
 have HBL : Hid (sealedL h rest = T ++ M) := Lib.hid (by unfold sealedL; rw [hbd, hT, hM])
 have hrk := rd_key hwf hgb7.src
 have htg : Calls Tryz.prog 44 #[.slice (some ⟨g, 0, none⟩) 32 32, .slice S nb cS] w7 fun e w' => e = .returned (.agg (hC T)) /\ Below w7.heap.size w7 w' := by
  rw [<- hT]
  exact refTag_any _ 32 32 h.key S nb cS B w7 hwf.1 hnb (by decide) (by omega) (by decide) (by decide) hrk hrS
 have hmask : ∀ W, Later w7 W -> Calls Tryz.prog 40 #[.agg (hC h.key), .agg (hC T), .slice S nb cS] W fun e w' => ∃ v, e = .returned v /\ Own 5 w' W.heap.size v M /\ Below W.heap.size W w' := fun W hL => by
  rw [<- hM]
  exact refXored_any h.key T S nb cS B W hwf.1 hTl hnb (by omega) (hrS.later hL)
 have hadd := fun W => run_str_add T M (by rw [hTl, hMl]; omega) W
 have hg7b := hgb7.low
 have hs7 := hgb7.sz
 have hr7 := hgb7.src
 have HT := Lib.hid hTl
 have HML := Lib.hid hMl
 have HN := Lib.hid hnb
 have HB7 : Hid (Below w.heap.size w w7) := Lib.hid (by
  have h1 := HL.out
  have hg := HG.out
  exact h1.below.trans (hg7b.mono (by omega)))
 clear hgb4 hown4 hgb7 hown7 hg7 hat7 hown6 hrd6 hL6 HM2 HLE hB hbd HBD hnb hTl hMl hT hM hrk hrS hg7b hs7 hsz5 hSc hScm HSZ HL0
 rename_i K hK
 have HK := Lib.hid hK
 clear hK
 go_upto_region 5 with (first
  | (guard_target =~ wpList _ _ _ (_ :: _) _ _; refine wpList_field rfl 27 (.tmp 2) 0 rfl (.pointer (some ⟨g, 0, none⟩)) rfl fHop0 ?_)
  | (guard_target =~ wpList _ _ _ (_ :: _) _ _; refine wpList_slice0 rfl 25 (.tmp 24) rfl (.pointer (some ⟨g, 0, none⟩)) rfl (sliceHashO _) ?_)
  | (go_at_call 44; refine htg.mono ?_; clear htg; rintro e w8 ⟨rfl, hb8⟩; obtain ⟨w9, hst9, hr9, hgr9⟩ := storeH (b := T) (by simp) (Nat.le_of_eq HT.out) (Row.new w8 25 (hC [])))
  | (with_reducible refine wpList_alloc rfl 25 rfl (allocH _) ?_)
  | (guard_target =~ wpList _ _ _ (_ :: _) _ _; refine wpList_store rfl 25 (.tmp 6) (.tmp 27) rfl (.pointer (some ⟨w8.heap.size, 0, none⟩)) (.agg (hC T)) rfl rfl hst9 ?_)
  | fail)
 obtain ⟨gT, hgT⟩ : ∃ g, g = w8.heap.size := ⟨_, rfl⟩
 rw [<- hgT] at hr9 hgr9 ⊢
 have hL9 : Later w7 w9 := Below.grown (Later.alloc hb8 (.cells (hC []) 25)) hgr9 (by have := hb8.size; simp only [World.size_alloc]; omega) (fun j e => by cases e; rw [hgT]; exact hb8.size)
 have hrt := rd_hash HT.out hr9
 have hm9 : ∀ W, Later w9 W -> Calls Tryz.prog 40 #[.agg (hC h.key), .agg (hC T), .slice S nb cS] W fun e w' => ∃ v, e = .returned v /\ Own 5 w' W.heap.size v M /\ Below W.heap.size W w' := fun W hL => hmask W (hL9.step hL)
 have hkyL : ∀ W, Later w9 W -> (Instr.loadAt 25 (.pointer (some ⟨g, 0, none⟩))).run Tryz.prog W = .ok (.agg (hC h.key)) W := fun W hL => loadKeyR hwf ((hr7.later hL9).later hL)
 have HB9 : Hid (Below w.heap.size w w9) := Lib.hid (HB7.out.trans (hL9.below.mono HB7.out.size))
 clear hmask hr7 hL9 hgr9 hst9 hb8 HB7 hgT
 refine HK.out _ _ ?_
 clear HK
 go_upto_region 5 with fail
 refine wp_region_list [Pr.eq (.slice (some ⟨gT, 0, none⟩) 32 32), Pr.eq (.string ⟨T.toArray⟩), Pr.eq (.pointer (some ⟨g, 0, none⟩)), Pr.eq (.agg (hC h.key)), Pr.eq (.agg (hC T)), Pr.eq (.slice S nb cS), Pr.slM nb M, Pr.eq (.string ⟨M.toArray⟩), Pr.eq (.string ⟨(T ++ M).toArray⟩), Pr.eq (.string ⟨(T ++ M).toArray⟩)] (by kernel_rfl) (by kernel_rfl) (by kernel_rfl) (by kernel_rfl) ⟨?_, ?_, ?_, ?_, ?_, ?_, ?_, ?_, ?_, ?_, trivial⟩ ?_
 ·exact fun ac W hL he => stepOk_want rfl (op_slice (W' := W) rfl (he.k 6) (rfl : _ = none) (rfl : _ = none) rfl (sliceHash W) rfl)
 ·exact fun ac W hL he => stepOk_want rfl (op_convert rfl (he.g 0 28) (run_string_rd W 60 9 5 _ 32 32 T Tryz.underlying60 Tryz.underlying5 Tryz.underlying9 HT.out (hrt.later hL)) (Later.refl _) rfl)
 ·exact fun ac W hL he => stepOk_want rfl (op_fieldAddr rfl (he.k 2) fHop0 rfl)
 ·exact fun ac W hL he => stepOk_want rfl (op_load rfl (he.g 2 30) (hkyL W hL) rfl)
 ·exact fun ac W hL he => stepOk_want rfl (op_load rfl (he.k 6) (loadH HT.out (hr9.later hL)) rfl)
 ·exact fun ac W hL he => stepOk_want rfl (op_move rfl (he.k 5))
 ·intro ac W hL he; refine stepOk_want rfl ?_; have e0 : ac.eval (.tmp 31) = .agg (hC h.key) := he.g 3 31; have e1 : ac.eval (.tmp 32) = .agg (hC T) := he.g 4 32; have e2 : ac.eval (.tmp 33) = .slice S nb cS := he.g 5 33; exact op_callF (vs := #[.agg (hC h.key), .agg (hC T), .slice S nb cS]) rfl (by simp only [List.map_toArray, List.map_cons, List.map_nil, e0, e1, e2]) (enters_of Tryz.func40 (by kernel_rfl) rfl) ((hm9 W hL).mono fun e W' ⟨v, he', ho, hb⟩ => ⟨_, he', hb, by obtain ⟨S2, c2, e5, h5, h5m, h6⟩ := ho.slice; rw [HML.out] at e5 h5; exact ⟨S2, c2, e5, h5, h5m, h6⟩⟩)
 ·intro ac W hL he; refine stepOk_want rfl ?_; obtain ⟨S, cS, e0, h1, h2, h3⟩ : (Pr.slM nb M).R (ac.eval (.tmp 34)) W := he.g 6 34; exact op_convert rfl e0 (run_string_rd W 60 9 5 _ nb cS M Tryz.underlying60 Tryz.underlying5 Tryz.underlying9 HML.out h3) (Later.refl _) rfl
 ·exact fun ac W hL he => stepOk_want rfl (op_binOp rfl (he.g 1 29) (he.g 7 35) (eqg_any rfl) (hadd W) rfl)
 ·exact fun ac W hL he => stepOk_want rfl (op_assign rfl (he.g 8 36))
 intro xs W9 hL9 hx
 have v9 : xs 9 = .string ⟨(T ++ M).toArray⟩ := hx 9 (by decide)
 simp only [putL, Nat.reduceAdd, Act.put, List.setIfInBounds_toArray, List.set_cons_succ, List.set_cons_zero]
 rw [v9]
 clear hx v9 hadd hm9 hkyL hrt
 have hEND : Hid (Below w.heap.size w W9) := Lib.hid (HB9.out.trans (hL9.below.mono HB9.out.size))
 clear hL9
 go_wp2_with fail
 exact HΦ.out _ _ ⟨by rw [HBL.out]; rfl, hEND.out⟩
def leafOf (P : Program) : Nat -> TypeId -> Nat -> Option TypeId
 | 0, _, _ => none
 | k + 1, t, o =>
  match P.underlying t with
  | some (.int _) => if o = 0 then some t else none
  | some .string => if o = 0 then some t else none
  | some (.array n e) => if o / P.cellsOf e < n /\ 0 < P.cellsOf e then leafOf P k e (o % P.cellsOf e) else none
  | some (.struct fs) =>
   match (List.range fs.size).find? (fun i => match fs[i]? with | some f => decide (f.offset <= o) && decide (o < f.offset + P.cellsOf f.type) | none => false) with
   | some i => match fs[i]? with
    | some f => leafOf P k f.type (o - f.offset)
    | none => none
   | none => none
  | _ => none
theorem take_drop_at {α : Type} (l : List α) (a c j : Nat) (v : α) (h : ((l.drop a).take c)[j]? = some v) : l[a + j]? = some v := by
 rw [List.getElem?_take] at h
 split at h
 ·rwa [List.getElem?_drop] at h
 ·cases h
theorem leafOf_trod {H : Type} {enc : TypeId × Value -> H} {P : Program} {w : World} {base : Nat} {sp : Nat -> Bool} {held : Bool} : ∀ (k : Nat) (t : TypeId) (o : Nat) (u : TypeId) (fuel : Nat) (cs : List Value) (x : DataW H × List MemPlace),
  leafOf P k t o = some u -> DataW.trod enc P w base sp held fuel t cs = some x -> ∃ v, cs[o]? = some v /\ Cell.okWide P w .any 0 u v
 | 0, _, _, _, _, _, _, h, _ => by cases h
 | k + 1, t, o, u, fuel, cs, x, h, hx => by
  unfold leafOf at h
  rcases hu : P.underlying t with _ | d
  ·rw [hu] at h; cases h
  ·rw [hu] at h
   cases d <;> simp only [] at h <;> try (cases h; done)
   case int kk =>
    split at h
    ·rename_i ho
     cases h
     subst ho
     obtain ⟨n, rfl, -, hw⟩ := DataW.trod_int hu hx
     refine ⟨_, rfl, ?_⟩
     unfold Cell.okWide Cell.ok
     rw [hu]
     simp only [Lit.wf, Bool.and_eq_true, decide_eq_true_eq] at hw
     exact ⟨rfl, hw⟩
    ·cases h
   case string =>
    split at h
    ·rename_i ho
     cases h
     subst ho
     obtain ⟨s, rfl, -, hw⟩ := DataW.trod_string hu hx
     refine ⟨_, rfl, ?_⟩
     unfold Cell.okWide Cell.ok
     rw [hu]
     show (s.size : Int) <= 9223372036854775807
     unfold maxLen at hw
     omega
    ·cases h
   case array n e =>
    split at h
    ·rename_i hn
     obtain ⟨xs, m, -, -, -, hl, hf⟩ := DataW.trod_array hu hx
     have h1 := hf (o / P.cellsOf e) hn.1
     rw [List.getElem?_eq_getElem (by omega)] at h1
     obtain ⟨v, h2, h3⟩ := leafOf_trod k e _ u _ _ _ h h1
     refine ⟨v, ?_, h3⟩
     have := take_drop_at _ _ _ _ _ h2
     rwa [Nat.div_add_mod'] at this
    ·cases h
   case struct fs =>
    split at h
    ·rename_i i hi
     split at h
     ·rename_i f hf0
      obtain ⟨xs, m, -, -, -, hl, hf⟩ := DataW.trod_struct hu hx
      have h1 := hf i f hf0
      have hin : i < fs.size := (Array.getElem?_eq_some_iff.1 hf0).1
      rw [List.getElem?_eq_getElem (by omega)] at h1
      obtain ⟨v, h2, h3⟩ := leafOf_trod k f.type _ u _ _ _ h h1
      refine ⟨v, ?_, h3⟩
      have h4 := List.find?_some hi
      rw [hf0] at h4
      simp only [Bool.and_eq_true, decide_eq_true_eq] at h4
      have := take_drop_at _ _ _ _ _ h2
      rwa [Nat.add_sub_cancel' h4.1] at this
     ·cases h
    ·cases h
section
variable {P : Program} {w : World} {r : Reach} {b : Nat} {t : TypeId} {v : Value}
theorem cellW_int {k : IntKind} (ht : P.underlying t = some (.int k)) (h : Cell.okWide P w r b t v) : ∃ n, v = .int k n /\ k.has n := by
 unfold Cell.okWide Cell.ok at h
 rw [ht] at h
 cases v <;> simp_all
end
def rByV : Value -> UInt8
 | .int _ n => UInt8.ofNat n.toNat
 | _ => 0
def rIntV : Value -> Int
 | .int _ n => n
 | _ => 0
theorem hop_cells {w : World} {r : Reach} {b : Nat} {cs : Array Value} (hsz : cs.size = 66) (hcell : ∀ i, i < 66 -> Cell.okWide Tryz.prog w r b (if i < 64 then 5 else 2) (cs.getD i undef)) : ∃ e : Hop, e.wf /\ hopC e = cs := by
 have hget : ∀ i, i < 66 -> cs[i]? = some (cs.getD i undef) := fun i hi => by
  rw [Array.getElem?_eq_getElem (by omega)]
  simp [Array.getD, hsz, hi]
 have hby : ∀ i, i < 64 -> cs.getD i undef = byteV (rByV (cs.getD i undef)) := fun i hi => by
  have h2 := hcell i (by omega)
  rw [if_pos hi] at h2
  obtain ⟨n, e, hn⟩ := cellW_int Tryz.underlying5 h2
  rw [e]
  simp [IntKind.has, IntKind.min, IntKind.max, IntKind.signed, IntKind.bits] at hn
  unfold byteV rByV
  rw [UInt8.toNat_ofNat']
  congr 1
  omega
 have hin : ∀ i, 64 <= i -> i < 66 -> cs.getD i undef = .int .i64 (rIntV (cs.getD i undef)) := fun i h1 hi => by
  have h2 := hcell i hi
  rw [if_neg (by omega)] at h2
  obtain ⟨n, e, hn⟩ := cellW_int Tryz.underlying2 h2
  rw [e]
  rfl
 have h1 : ((List.range 32).map fun i => rByV (cs.getD i undef)).length = 32 := by simp
 have h2 : ((List.range 32).map fun i => rByV (cs.getD (32 + i) undef)).length = 32 := by simp
 obtain ⟨ed, hed⟩ : ∃ ed : Hop, ed = ⟨(List.range 32).map fun i => rByV (cs.getD i undef), (List.range 32).map fun i => rByV (cs.getD (32 + i) undef), rIntV (cs.getD 64 undef), rIntV (cs.getD 65 undef)⟩ := ⟨_, rfl⟩
 have hw : ed.wf := by subst hed; exact ⟨h1, h2⟩
 refine ⟨ed, hw, ?_⟩
 apply Array.ext_getElem?
 intro i
 by_cases hi : i < 32
 ·rw [hopC_key hw i hi, hC_full _ hw.1, hget i (by omega), hed]
  simp only [List.getElem?_toArray, List.getElem?_map, List.getElem?_range hi, Option.map_some]
  rw [<- hby i (by omega)]
 ·by_cases hi2 : i < 64
  ·obtain ⟨k, rfl⟩ : ∃ k, i = 32 + k := ⟨i - 32, by omega⟩
   have hk : k < 32 := by omega
   rw [hopC_next hw k hk, hC_full _ hw.2, hget (32 + k) (by omega), hed]
   simp only [List.getElem?_toArray, List.getElem?_map, List.getElem?_range hk, Option.map_some]
   rw [<- hby (32 + k) (by omega)]
  ·by_cases hi3 : i < 66
   ·have n1 := hopC_amt hw
    have n2 := hopC_exp hw
    have : i = 64 \/ i = 65 := by omega
    rcases this with rfl | rfl
    ·rw [n1, hget 64 (by omega), hin 64 (by omega) (by omega), hed]
    ·rw [n2, hget 65 (by omega), hin 65 (by omega) (by omega), hed]
   ·rw [Array.getElem?_eq_none (by rw [hopC_size hw]; omega), Array.getElem?_eq_none (by omega)]
def hopT : List TypeId := List.replicate 64 5 ++ List.replicate 2 2
theorem hop_leaves : ((List.range 66).map fun i => leafOf Tryz.prog 6 27 i) = hopT.map some := by kernel_rfl
theorem hop_leaf (i : Nat) (hi : i < 66) : leafOf Tryz.prog 6 27 i = some (if i < 64 then 5 else 2) := by
 have h := congrArg (fun l => l[i]?) hop_leaves
 simp only [List.getElem?_map, List.getElem?_range hi, Option.map_some, hopT] at h
 by_cases h1 : i < 64
 ·rw [if_pos h1]
  rw [List.getElem?_append_left (by simpa using h1), List.getElem?_replicate, if_pos h1] at h
  simpa using h
 ·rw [if_neg h1]
  rw [List.getElem?_append_right (by simpa using h1), List.getElem?_replicate, if_pos (by simp; omega)] at h
  simpa using h
structure InHops (w : World) (A : Option Addr) (n c : Nat) (l : List Hop) : Prop where
 len : l.length = n
 cap : n <= c
 most : c <= maxLen
 wf : ∀ e ∈ l, e.wf
 rd : Recs 66 w A (l.map hopL)
theorem in_hops {H : Type} {enc : TypeId × Value -> H} {w : World} {held : Bool} {fuel len cap : Nat} {A : Option Addr} {x : DataW H × List MemPlace}
  (h : DataW.trod enc Tryz.prog w 0 (fun _ => true) held fuel 22 [.slice A len cap] = some x) : ∃ l, InHops w A len cap l := by
 rcases Deep.open_slice Tryz.underlying22 h with ⟨hcs, _⟩ | ⟨ad, l, c, m, n, D, Pl, hcs, _, hl, hm, hmm, _, hx⟩
 ·injection hcs with h1
  injection h1 with h1 h2 h3
  subst h1 h2 h3
  exact ⟨[], rfl, Nat.le_refl _, Nat.zero_le _, by simp, Recs.nil _ _ _⟩
 ·injection hcs with h1
  injection h1 with h1 h2 h3
  subst h1 h2 h3
  have hmc : m = cap := by rw [hmm]; rfl
  have ce : Tryz.prog.cellsOf 27 = 66 := by kernel_rfl
  have each : ∀ i, ∃ t : Hop, i < len -> t.wf /\ ∀ j, j < 66 -> w.cell? ((ad.add (i * 66)).add j) = (hopC t)[j]? := fun i => by
   by_cases hi : i < len
   ·obtain ⟨cs', h1, h2⟩ := hx i (by omega)
    rw [ce] at h1
    obtain ⟨_, hlen, hcell⟩ := World.cells?_some h1
    obtain ⟨t, ht, e⟩ := hop_cells (w := w) (r := .any) (b := 0) (cs := cs'.toArray) (by simpa using hlen) (fun j hj => by
     obtain ⟨v, h5, h6⟩ := leafOf_trod 6 _ j _ _ _ _ (hop_leaf j hj) h2
     have : cs'.toArray.getD j undef = v := by
      obtain ⟨hj5, e5⟩ := List.getElem?_eq_some_iff.1 h5
      simp [Array.getD, hj5, e5]
     rw [this]
     exact h6)
    refine ⟨t, fun _ => ⟨ht, fun j hj => ?_⟩⟩
    rw [e, List.getElem?_toArray]
    exact hcell j (by omega)
   ·exact ⟨noHop, fun h => absurd h hi⟩
  obtain ⟨f, hf⟩ := Classical.axiomOfChoice each
  refine ⟨(List.range len).map f, by simp, hl, hm, ?_, fun hne => ?_⟩
  ·intro t ht
   obtain ⟨i, hi, rfl⟩ := List.mem_map.1 ht
   exact (hf i (List.mem_range.1 hi)).1
  ·have h0 : 0 < len := by
    rcases Nat.eq_zero_or_pos len with e | e
    ·subst e; exact absurd rfl hne
    ·exact e
   obtain ⟨b, o, rfl⟩ : ∃ b o, ad = ⟨b, o, none⟩ := by
    have h1 := (hf 0 h0).2 0 (by omega)
    rw [Array.getElem?_eq_getElem (by rw [hopC_size (hf 0 h0).1]; omega)] at h1
    exact ⟨_, _, addr_none (by simpa [Addr.add] using h1)⟩
   refine ⟨b, o, rfl, fun i hi j v hj => ?_⟩
   have hi' : i < len := by simpa using hi
   obtain ⟨h1, h2⟩ := hf i hi'
   simp only [List.getElem_map, List.getElem_range] at hj
   have hj3 : j < 66 := by
    have := (List.getElem?_eq_some_iff.1 hj).1
    rwa [hopL_len h1] at this
   rw [Array.getElem?_toList] at hj
   have h3 := h2 j hj3
   rw [addr_add, addr_add] at h3
   exact h3.trans hj
end Go.Proofs.YtloiaaolnfimgaaGreat
namespace Go.Proofs.YtloiaaolnfimgaaGreat
open Go.RowKit Rt
namespace Rt
def hopFit (l : List Hop) (i : Nat) : Bool := paid (l.getD i noHop).amt (l.getD i noHop).exp && (((l.getD i noHop).next == zh) == decide (i + 1 = l.length))
def okHops (l : List Hop) : Bool := (List.range l.length).all (hopFit l)
def wrapL : List Hop -> List UInt8
 | [] => []
 | h :: t => sealedL h (wrapL t)
def wrap (l : List Hop) : List UInt8 × Int :=
 if okHops l && (decide (1 <= l.length) && decide (l.length <= 6)) then (if 512 < (wrapL l).length then ([], 3) else (wrapL l, 0)) else ([], 2)
theorem wrapL_len : ∀ {l : List Hop}, (∀ h ∈ l, h.wf) -> (wrapL l).length <= 92 * l.length
 | [], _ => by simp [wrapL]
 | h :: t, hw => by
  have h1 := wrapL_len (l := t) (fun x hx => hw x (List.mem_cons_of_mem _ hx))
  have h2 := sealedL_len (hw h List.mem_cons_self) (wrapL t)
  rw [List.length_cons]
  show (sealedL h (wrapL t)).length <= _
  omega
theorem wrap_no {l : List Hop} {k : Nat} (hk : k < l.length) (h : hopFit l k = false) : wrap l = ([], 2) := by
 have : okHops l = false := by
  unfold okHops
  rw [List.all_eq_false]
  exact ⟨k, List.mem_range.2 hk, by rw [h]; simp⟩
 unfold wrap
 rw [this]
 rfl
theorem wrap_few {l : List Hop} (h : l.length < 1 \/ 6 < l.length) : wrap l = ([], 2) := by
 have : (decide (1 <= l.length) && decide (l.length <= 6)) = false := by
  rw [Bool.and_eq_false_iff]
  rcases h with h | h
  ·exact .inl (decide_eq_false (by omega))
  ·exact .inr (decide_eq_false (by omega))
 unfold wrap
 rw [this, Bool.and_false]
 rfl
theorem wrap_yes {l : List Hop} (h : ∀ i, i < l.length -> hopFit l i = true) (h1 : 1 <= l.length) (h6 : l.length <= 6) : wrap l = (if 512 < (wrapL l).length then ([], 3) else (wrapL l, 0)) := by
 have : okHops l = true := by
  unfold okHops
  rw [List.all_eq_true]
  exact fun i hi => h i (List.mem_range.1 hi)
 unfold wrap
 rw [this, decide_eq_true h1, decide_eq_true h6]
 rfl
theorem hopFit_paid {l : List Hop} {i : Nat} (h : hopFit l i = true) : paid (l.getD i noHop).amt (l.getD i noHop).exp = true := by
 unfold hopFit at h
 rw [Bool.and_eq_true] at h
 exact h.1
theorem wrapL_drop {l : List Hop} {i : Nat} (h : i < l.length) : wrapL (l.drop i) = sealedL (l.getD i noHop) (wrapL (l.drop (i + 1))) := by
 rw [List.drop_eq_getElem_cons h, List.getD_eq_getElem?_getD, List.getElem?_eq_getElem h]
 rfl
end Rt
open Rt
theorem eqDec {a b : Int} {d : Bool} {W : World} (h : decide (a = b) = d) : (binOp .eql 3 (.int .i64 a) (.int .i64 b)).run Tryz.prog W = .ok (.bool d) W := by
 rw [<- h]
 kernel_rfl
theorem loadNextM {w : World} {b o : Nat} {h : Hop} (hw : h.wf) (hr : w.rangeAt b o (hopL h)) : (Instr.loadAt 25 (.pointer (some ⟨b, o + 32, none⟩))).run Tryz.prog w = .ok (.agg (hC h.next)) w := by
 have hz := hC_size h.next (Nat.le_of_eq hw.2)
 have := run_loadAt_mid (P := Tryz.prog) w b (o + 32) 25 (hC h.next).toList _ (fun j v hv => by
  rw [Array.getElem?_toList] at hv
  have hj : j < 32 := by have := (Array.getElem?_eq_some_iff.1 hv).1; omega
  have h2 := hr (32 + j) v (by rw [Array.getElem?_toList, hopC_next hw j hj]; exact hv)
  rwa [<- Nat.add_assoc] at h2) Tryz.underlying25 rfl (by rw [Array.length_toList, hz]; exact infoH)
 rwa [Array.toArray_toList] at this
theorem refWrap_any (l : List Hop) (A : Option Addr) (n c : Nat) (w : World) (hin : InHops w A n c l) (hn10 : n <= 10) : Calls Tryz.prog 10 #[.slice A n c] w fun e w' => e = .returned (.tuple #[.string ⟨(Rt.wrap l).1.toArray⟩, .int .i64 (Rt.wrap l).2]) /\ Below w.heap.size w w' := by
 refine Calls.post fun Φ HΦ => ?_
 obtain ⟨hlen, hcap, hmost, hwf, hrd⟩ := hin
 have HN := Lib.hid hlen
 have HWF := Lib.hid hwf
 obtain ⟨b1, hb1⟩ : ∃ b, decide ((n : Int) < 1) = b := ⟨_, rfl⟩
 obtain ⟨b2, hb2⟩ : ∃ b, decide (6 < (n : Int)) = b := ⟨_, rfl⟩
 clear hlen hwf hmost hcap
 go_enter Tryz.func10, Tryz.ntmps10
 go_upto_region 1 with fail
 by_cases hc1 : b1 = true
 ·subst hc1
  have hno : Rt.wrap l = ([], 2) := wrap_few (by rw [HN.out]; have := of_decide_eq_true hb1; omega)
  have HNO := Lib.hid hno
  clear hno
  refine wp_region_seqL [Pr.eq (.slice A n c), Pr.eq (.int .i64 (n : Int)), Pr.eq (.bool true), Pr.eq (.bool true), Pr.eq (undef), Pr.eq (undef), Pr.eq (undef), Pr.eq (.bool true)] (by kernel_rfl) (by kernel_rfl) (by kernel_rfl) ⟨?_, ?_, ?_, ?_, ?_, ?_, ?_, ?_, trivial⟩ ?_
  ·exact fun ac W hL he => stepOk_want rfl (op_move rfl (he.k 0))
  ·exact fun ac W hL he => stepOk_want rfl (op_len Tryz.underlying22 rfl (he.g 0 7) rfl)
  ·exact fun ac W hL he => stepOk_want rfl (op_binOp rfl (he.g 1 8) rfl (eqg_any rfl) (cmpL hb1) rfl)
  ·exact fun ac W hL he => stepOk_want rfl (op_move rfl (he.g 2 9))
  iterate 3 (exact fun ac W hL he => stepOk_no rfl rfl (he.g 3 10) (by decide) rfl)
  ·exact fun ac W hL he => stepOk_want rfl (op_pick (b := true) rfl (he.g 3 10) rfl)
  intro xs W hL hx
  have v7 : xs 7 = .bool true := hx 7 (by decide)
  have HLR := Lib.hid hL.below
  simp only [putL, Nat.reduceAdd, Act.put, List.setIfInBounds_toArray, List.set_cons_succ, List.set_cons_zero]
  rw [v7]
  clear hx v7 hb1 hb2 hL
  go_wp2_with fail
  exact HΦ.out _ _ ⟨by rw [HNO.out]; rfl, HLR.out⟩
 have hc1' : b1 = false := by revert hc1; cases b1 <;> simp
 clear hc1
 subst hc1'
 by_cases hc2 : b2 = true
 ·subst hc2
  have hno : Rt.wrap l = ([], 2) := wrap_few (by rw [HN.out]; have := of_decide_eq_true hb2; omega)
  have HNO := Lib.hid hno
  clear hno
  refine wp_region_seqL [Pr.eq (.slice A n c), Pr.eq (.int .i64 (n : Int)), Pr.eq (.bool false), Pr.eq (.bool false), Pr.eq (.slice A n c), Pr.eq (.int .i64 (n : Int)), Pr.eq (.bool true), Pr.eq (.bool true)] (by kernel_rfl) (by kernel_rfl) (by kernel_rfl) ⟨?_, ?_, ?_, ?_, ?_, ?_, ?_, ?_, trivial⟩ ?_
  ·exact fun ac W hL he => stepOk_want rfl (op_move rfl (he.k 0))
  ·exact fun ac W hL he => stepOk_want rfl (op_len Tryz.underlying22 rfl (he.g 0 7) rfl)
  ·exact fun ac W hL he => stepOk_want rfl (op_binOp rfl (he.g 1 8) rfl (eqg_any rfl) (cmpL hb1) rfl)
  ·exact fun ac W hL he => stepOk_want rfl (op_move rfl (he.g 2 9))
  ·exact fun ac W hL he => stepOk_yes (j := 3) (t := 10) (b := false) rfl rfl (he.g 3 10) (op_move rfl (he.k 0))
  ·exact fun ac W hL he => stepOk_yes (j := 3) (t := 10) (b := false) rfl rfl (he.g 3 10) (op_len Tryz.underlying22 rfl (he.g 4 11) rfl)
  ·exact fun ac W hL he => stepOk_yes (j := 3) (t := 10) (b := false) rfl rfl (he.g 3 10) (op_binOp rfl (he.g 5 12) rfl (eqg_any rfl) (cmpG hb2) rfl)
  ·exact fun ac W hL he => stepOk_want rfl (op_pick (b := false) rfl (he.g 3 10) (he.g 6 13))
  intro xs W hL hx
  have v7 : xs 7 = .bool true := hx 7 (by decide)
  have HLR := Lib.hid hL.below
  simp only [putL, Nat.reduceAdd, Act.put, List.setIfInBounds_toArray, List.set_cons_succ, List.set_cons_zero]
  rw [v7]
  clear hx v7 hb1 hb2 hL
  go_wp2_with fail
  exact HΦ.out _ _ ⟨by rw [HNO.out]; rfl, HLR.out⟩
 have hc2' : b2 = false := by revert hc2; cases b2 <;> simp
 clear hc2
 subst hc2'
 have hn1 : 1 <= n := by have := of_decide_eq_false hb1; omega
 have hn6 : n <= 6 := by have := of_decide_eq_false hb2; omega
 refine wp_region_seqL [Pr.eq (.slice A n c), Pr.eq (.int .i64 (n : Int)), Pr.eq (.bool false), Pr.eq (.bool false), Pr.eq (.slice A n c), Pr.eq (.int .i64 (n : Int)), Pr.eq (.bool false), Pr.eq (.bool false)] (by kernel_rfl) (by kernel_rfl) (by kernel_rfl) ⟨?_, ?_, ?_, ?_, ?_, ?_, ?_, ?_, trivial⟩ ?_
 ·exact fun ac W hL he => stepOk_want rfl (op_move rfl (he.k 0))
 ·exact fun ac W hL he => stepOk_want rfl (op_len Tryz.underlying22 rfl (he.g 0 7) rfl)
 ·exact fun ac W hL he => stepOk_want rfl (op_binOp rfl (he.g 1 8) rfl (eqg_any rfl) (cmpL hb1) rfl)
 ·exact fun ac W hL he => stepOk_want rfl (op_move rfl (he.g 2 9))
 ·exact fun ac W hL he => stepOk_yes (j := 3) (t := 10) (b := false) rfl rfl (he.g 3 10) (op_move rfl (he.k 0))
 ·exact fun ac W hL he => stepOk_yes (j := 3) (t := 10) (b := false) rfl rfl (he.g 3 10) (op_len Tryz.underlying22 rfl (he.g 4 11) rfl)
 ·exact fun ac W hL he => stepOk_yes (j := 3) (t := 10) (b := false) rfl rfl (he.g 3 10) (op_binOp rfl (he.g 5 12) rfl (eqg_any rfl) (cmpG hb2) rfl)
 ·exact fun ac W hL he => stepOk_want rfl (op_pick (b := false) rfl (he.g 3 10) (he.g 6 13))
 intro xs W hL hx
 have v7 : xs 7 = .bool false := hx 7 (by decide)
 have L0 : Later w W := hL
 have hA1 := hrd.later hL
 simp only [putL, Nat.reduceAdd, Act.put, List.setIfInBounds_toArray, List.set_cons_succ, List.set_cons_zero]
 rw [v7]
 clear hx v7 hb1 hb2 hL hrd
 go_wp2_with fail
 go_loopw [4] (fun t wr => ∃ k : Nat, k <= n /\ t = .int .i64 k /\ (∀ i, i < k -> hopFit l i = true) /\ Later W wr) (fun t _ => n - (intOf t).toNat)
 case atStart => exact ⟨0, by omega, rfl, fun i h => by omega, Later.refl _⟩
 case round =>
  obtain ⟨k, hk, rfl, hoks, hL⟩ := hrel
  by_cases hlt : k < n
  ·have hd : decide ((k : Int) < (n : Int)) = true := decide_eq_true (by omega)
   have hd' : decide (k < n) = true := decide_eq_true hlt
   have hkl : k < l.length := by rw [HN.out]; exact hlt
   obtain ⟨b, o, rfl, hcell⟩ := (hA1.later hL).at_ (k := k) (by simpa using hkl)
   rw [List.getElem_map] at hcell
   have hew := HWF.out _ (List.getElem_mem hkl)
   have hge : l.getD k noHop = l[k] := getD_lt hkl
   obtain ⟨ed, hed⟩ : ∃ e, l[k] = e := ⟨_, rfl⟩
   rw [hed] at hcell hew hge
   have hix := fun W => idxHop (b := b) (o := o) (n := n) (c := c) (i := k) W hlt
   have hph := fun W => refhop_any ed hew W
   obtain ⟨p1, hp1⟩ : ∃ x, paid ed.amt ed.exp = x := ⟨_, rfl⟩
   obtain ⟨nx, hnx⟩ : ∃ x, (ed.next == zh) = x := ⟨_, rfl⟩
   have hqe := fun W => eqlHash ed.next zh hew.2 zh_len W
   have hat : hopFit l k = (p1 && (nx == decide (k + 1 = n))) := by unfold hopFit; rw [hge, hp1, hnx, HN.out]
   simp only [hp1] at hph
   rw [hnx] at hqe
   have HAT := Lib.hid hat
   have HOKS := Lib.hid hoks
   have HL := Lib.hid (L0.step hL)
   have HLW := Lib.hid hL
   clear hat hoks hge hed hp1 hnx
   have hcl : ∀ W', Later wr W' -> W'.rangeAt b (o + k * 66) (hopL ed) := fun W' hL' j v hv => hL'.cell (hcell j v hv)
   have HCL := Lib.hid hcl
   clear hcell hcl
   go_upto_region 6 with fail
   by_cases hc : p1 = false
   ·subst hc
    have HNO : Hid (Rt.wrap l = ([], 2)) := Lib.hid (wrap_no hkl (by rw [HAT.out]; rfl))
    refine wp_region_seqL [Pr.eq (.slice (some ⟨b, o, none⟩) n c), Pr.eq (.int .i64 (k : Int)), Pr.eq (.pointer (some ⟨b, o + k * 66, none⟩)), Pr.eq (.agg (hopC ed)), Pr.eq (.bool false), Pr.eq (.bool true), Pr.eq (.bool true), Pr.eq (undef), Pr.eq (undef), Pr.eq (undef), Pr.eq (undef), Pr.eq (undef), Pr.eq (undef), Pr.eq (undef), Pr.eq (undef), Pr.eq (undef), Pr.eq (undef), Pr.eq (undef), Pr.eq (undef), Pr.eq (undef), Pr.eq (.bool true)] (by kernel_rfl) (by kernel_rfl) (by kernel_rfl) ⟨?_, ?_, ?_, ?_, ?_, ?_, ?_, ?_, ?_, ?_, ?_, ?_, ?_, ?_, ?_, ?_, ?_, ?_, ?_, ?_, ?_, trivial⟩ ?_
    ·exact fun ac W hL he => stepOk_want rfl (op_move rfl (he.k 0))
    ·exact fun ac W hL he => stepOk_want rfl (op_move rfl (he.k 4))
    ·exact fun ac W hL he => stepOk_want rfl (op_idx rfl (he.g 0 21) (he.g 1 22) (hix W) rfl)
    ·exact fun ac W hL he => stepOk_want rfl (op_load rfl (he.g 2 23) (loadHopM hew (HCL.out W hL)) rfl)
    ·intro ac W hL he; refine stepOk_want rfl ?_; have e0 : ac.eval (.tmp 24) = .agg (hopC ed) := (he.g 3 24); exact op_callF (vs := #[.agg (hopC ed)]) rfl (by simp only [List.map_toArray, List.map_cons, List.map_nil, e0]) (enters_of Tryz.func28 (by kernel_rfl) rfl) (((hph W)).mono fun e W' ⟨he', hb⟩ => ⟨_, he', hb, rfl⟩)
    ·exact fun ac W hL he => stepOk_want rfl (op_not rfl (he.g 4 25) rfl)
    ·exact fun ac W hL he => stepOk_want rfl (op_move rfl (he.g 5 26))
    iterate 13 (exact fun ac W hL he => stepOk_no rfl rfl (he.g 6 27) (by decide) rfl)
    ·exact fun ac W hL he => stepOk_want rfl (op_pick (b := true) rfl (he.g 6 27) rfl)
    intro xs W2 hL2 hx
    have v20 : xs 20 = .bool true := hx 20 (by decide)
    have HLR := Lib.hid (HL.out.step hL2).below
    simp only [putL, Nat.reduceAdd, Act.put, List.setIfInBounds_toArray, List.set_cons_succ, List.set_cons_zero]
    rw [v20]
    clear hx v20 hL2 hph hqe hix
    go_wp2_with fail
    exact HΦ.out _ _ ⟨by rw [HNO.out]; rfl, HLR.out⟩
   have hc' : p1 = true := by revert hc; cases p1 <;> simp
   clear hc
   subst hc'
   obtain ⟨dd, hdd⟩ : ∃ x, decide ((k : Int) = ((n - 1 : Nat) : Int)) = x := ⟨_, rfl⟩
   have hdk : decide (k + 1 = n) = dd := by
    rw [<- hdd]
    exact decide_eq_decide.2 ⟨fun h => by omega, fun h => by omega⟩
   obtain ⟨bb, hbb⟩ : ∃ x, (!(nx == dd)) = x := ⟨_, rfl⟩
   have hnb := fun W => neqBools nx dd W
   rw [hbb] at hnb
   have hat2 : hopFit l k = !bb := by rw [HAT.out, hdk, <- hbb]; simp
   have HAT2 := Lib.hid hat2
   clear hat2 hdk hbb HAT
   by_cases hc : bb = true
   ·subst hc
    have HNO : Hid (Rt.wrap l = ([], 2)) := Lib.hid (wrap_no hkl (by rw [HAT2.out]; rfl))
    refine wp_region_seqL [Pr.eq (.slice (some ⟨b, o, none⟩) n c), Pr.eq (.int .i64 (k : Int)), Pr.eq (.pointer (some ⟨b, o + k * 66, none⟩)), Pr.eq (.agg (hopC ed)), Pr.eq (.bool true), Pr.eq (.bool false), Pr.eq (.bool false), Pr.eq (.slice (some ⟨b, o, none⟩) n c), Pr.eq (.int .i64 (k : Int)), Pr.eq (.pointer (some ⟨b, o + k * 66, none⟩)), Pr.eq (.pointer (some ⟨b, o + k * 66 + 32, none⟩)), Pr.eq (.agg (hC ed.next)), Pr.eq (.agg (hC zh)), Pr.eq (.bool nx), Pr.eq (.int .i64 (k : Int)), Pr.eq (.slice (some ⟨b, o, none⟩) n c), Pr.eq (.int .i64 (n : Int)), Pr.eq (.int .i64 ((n - 1 : Nat) : Int)), Pr.eq (.bool dd), Pr.eq (.bool true), Pr.eq (.bool true)] (by kernel_rfl) (by kernel_rfl) (by kernel_rfl) ⟨?_, ?_, ?_, ?_, ?_, ?_, ?_, ?_, ?_, ?_, ?_, ?_, ?_, ?_, ?_, ?_, ?_, ?_, ?_, ?_, ?_, trivial⟩ ?_
    ·exact fun ac W hL he => stepOk_want rfl (op_move rfl (he.k 0))
    ·exact fun ac W hL he => stepOk_want rfl (op_move rfl (he.k 4))
    ·exact fun ac W hL he => stepOk_want rfl (op_idx rfl (he.g 0 21) (he.g 1 22) (hix W) rfl)
    ·exact fun ac W hL he => stepOk_want rfl (op_load rfl (he.g 2 23) (loadHopM hew (HCL.out W hL)) rfl)
    ·intro ac W hL he; refine stepOk_want rfl ?_; have e0 : ac.eval (.tmp 24) = .agg (hopC ed) := (he.g 3 24); exact op_callF (vs := #[.agg (hopC ed)]) rfl (by simp only [List.map_toArray, List.map_cons, List.map_nil, e0]) (enters_of Tryz.func28 (by kernel_rfl) rfl) (((hph W)).mono fun e W' ⟨he', hb⟩ => ⟨_, he', hb, rfl⟩)
    ·exact fun ac W hL he => stepOk_want rfl (op_not rfl (he.g 4 25) rfl)
    ·exact fun ac W hL he => stepOk_want rfl (op_move rfl (he.g 5 26))
    ·exact fun ac W hL he => stepOk_yes (j := 6) (t := 27) (b := false) rfl rfl (he.g 6 27) (op_move rfl (he.k 0))
    ·exact fun ac W hL he => stepOk_yes (j := 6) (t := 27) (b := false) rfl rfl (he.g 6 27) (op_move rfl (he.k 4))
    ·exact fun ac W hL he => stepOk_yes (j := 6) (t := 27) (b := false) rfl rfl (he.g 6 27) (op_idx rfl (he.g 7 28) (he.g 8 29) (hix W) rfl)
    ·exact fun ac W hL he => stepOk_yes (j := 6) (t := 27) (b := false) rfl rfl (he.g 6 27) (op_fieldAddr rfl (he.g 9 30) fHop1 rfl)
    ·exact fun ac W hL he => stepOk_yes (j := 6) (t := 27) (b := false) rfl rfl (he.g 6 27) (op_load rfl (he.g 10 31) (loadNextM hew (HCL.out W hL)) rfl)
    ·intro ac W hL he; refine stepOk_yes (j := 6) (t := 27) (b := false) rfl rfl (he.g 6 27) ?_; exact op_build (vs := #[]) rfl (by simp only [List.map_toArray, List.map_cons, List.map_nil]) (buildH0r W) rfl
    ·exact fun ac W hL he => stepOk_yes (j := 6) (t := 27) (b := false) rfl rfl (he.g 6 27) (op_binOp rfl (he.g 11 32) (he.g 12 33) (eqgHashR _ _ _ _ _ _) (hqe W) rfl)
    ·exact fun ac W hL he => stepOk_yes (j := 6) (t := 27) (b := false) rfl rfl (he.g 6 27) (op_move rfl (he.k 4))
    ·exact fun ac W hL he => stepOk_yes (j := 6) (t := 27) (b := false) rfl rfl (he.g 6 27) (op_move rfl (he.k 0))
    ·exact fun ac W hL he => stepOk_yes (j := 6) (t := 27) (b := false) rfl rfl (he.g 6 27) (op_len Tryz.underlying22 rfl (he.g 15 36) rfl)
    ·exact fun ac W hL he => stepOk_yes (j := 6) (t := 27) (b := false) rfl rfl (he.g 6 27) (op_binOp rfl (he.g 16 37) rfl (eqg_any rfl) (subN (x := n) (y := 1) hn1 (by omega)) rfl)
    ·exact fun ac W hL he => stepOk_yes (j := 6) (t := 27) (b := false) rfl rfl (he.g 6 27) (op_binOp rfl (he.g 14 35) (he.g 17 38) eqgI (eqDec hdd) rfl)
    ·exact fun ac W hL he => stepOk_yes (j := 6) (t := 27) (b := false) rfl rfl (he.g 6 27) (op_binOp rfl (he.g 13 34) (he.g 18 39) eqgB (hnb W) rfl)
    ·exact fun ac W hL he => stepOk_want rfl (op_pick (b := false) rfl (he.g 6 27) (he.g 19 40))
    intro xs W2 hL2 hx
    have v20 : xs 20 = .bool true := hx 20 (by decide)
    have HLR := Lib.hid (HL.out.step hL2).below
    simp only [putL, Nat.reduceAdd, Act.put, List.setIfInBounds_toArray, List.set_cons_succ, List.set_cons_zero]
    rw [v20]
    clear hx v20 hL2 hph hqe hix hnb hdd
    go_wp2_with fail
    exact HΦ.out _ _ ⟨by rw [HNO.out]; rfl, HLR.out⟩
   have hc' : bb = false := by revert hc; cases bb <;> simp
   clear hc
   subst hc'
   refine wp_region_seqL [Pr.eq (.slice (some ⟨b, o, none⟩) n c), Pr.eq (.int .i64 (k : Int)), Pr.eq (.pointer (some ⟨b, o + k * 66, none⟩)), Pr.eq (.agg (hopC ed)), Pr.eq (.bool true), Pr.eq (.bool false), Pr.eq (.bool false), Pr.eq (.slice (some ⟨b, o, none⟩) n c), Pr.eq (.int .i64 (k : Int)), Pr.eq (.pointer (some ⟨b, o + k * 66, none⟩)), Pr.eq (.pointer (some ⟨b, o + k * 66 + 32, none⟩)), Pr.eq (.agg (hC ed.next)), Pr.eq (.agg (hC zh)), Pr.eq (.bool nx), Pr.eq (.int .i64 (k : Int)), Pr.eq (.slice (some ⟨b, o, none⟩) n c), Pr.eq (.int .i64 (n : Int)), Pr.eq (.int .i64 ((n - 1 : Nat) : Int)), Pr.eq (.bool dd), Pr.eq (.bool false), Pr.eq (.bool false)] (by kernel_rfl) (by kernel_rfl) (by kernel_rfl) ⟨?_, ?_, ?_, ?_, ?_, ?_, ?_, ?_, ?_, ?_, ?_, ?_, ?_, ?_, ?_, ?_, ?_, ?_, ?_, ?_, ?_, trivial⟩ ?_
   ·exact fun ac W hL he => stepOk_want rfl (op_move rfl (he.k 0))
   ·exact fun ac W hL he => stepOk_want rfl (op_move rfl (he.k 4))
   ·exact fun ac W hL he => stepOk_want rfl (op_idx rfl (he.g 0 21) (he.g 1 22) (hix W) rfl)
   ·exact fun ac W hL he => stepOk_want rfl (op_load rfl (he.g 2 23) (loadHopM hew (HCL.out W hL)) rfl)
   ·intro ac W hL he; refine stepOk_want rfl ?_; have e0 : ac.eval (.tmp 24) = .agg (hopC ed) := (he.g 3 24); exact op_callF (vs := #[.agg (hopC ed)]) rfl (by simp only [List.map_toArray, List.map_cons, List.map_nil, e0]) (enters_of Tryz.func28 (by kernel_rfl) rfl) (((hph W)).mono fun e W' ⟨he', hb⟩ => ⟨_, he', hb, rfl⟩)
   ·exact fun ac W hL he => stepOk_want rfl (op_not rfl (he.g 4 25) rfl)
   ·exact fun ac W hL he => stepOk_want rfl (op_move rfl (he.g 5 26))
   ·exact fun ac W hL he => stepOk_yes (j := 6) (t := 27) (b := false) rfl rfl (he.g 6 27) (op_move rfl (he.k 0))
   ·exact fun ac W hL he => stepOk_yes (j := 6) (t := 27) (b := false) rfl rfl (he.g 6 27) (op_move rfl (he.k 4))
   ·exact fun ac W hL he => stepOk_yes (j := 6) (t := 27) (b := false) rfl rfl (he.g 6 27) (op_idx rfl (he.g 7 28) (he.g 8 29) (hix W) rfl)
   ·exact fun ac W hL he => stepOk_yes (j := 6) (t := 27) (b := false) rfl rfl (he.g 6 27) (op_fieldAddr rfl (he.g 9 30) fHop1 rfl)
   ·exact fun ac W hL he => stepOk_yes (j := 6) (t := 27) (b := false) rfl rfl (he.g 6 27) (op_load rfl (he.g 10 31) (loadNextM hew (HCL.out W hL)) rfl)
   ·intro ac W hL he; refine stepOk_yes (j := 6) (t := 27) (b := false) rfl rfl (he.g 6 27) ?_; exact op_build (vs := #[]) rfl (by simp only [List.map_toArray, List.map_cons, List.map_nil]) (buildH0r W) rfl
   ·exact fun ac W hL he => stepOk_yes (j := 6) (t := 27) (b := false) rfl rfl (he.g 6 27) (op_binOp rfl (he.g 11 32) (he.g 12 33) (eqgHashR _ _ _ _ _ _) (hqe W) rfl)
   ·exact fun ac W hL he => stepOk_yes (j := 6) (t := 27) (b := false) rfl rfl (he.g 6 27) (op_move rfl (he.k 4))
   ·exact fun ac W hL he => stepOk_yes (j := 6) (t := 27) (b := false) rfl rfl (he.g 6 27) (op_move rfl (he.k 0))
   ·exact fun ac W hL he => stepOk_yes (j := 6) (t := 27) (b := false) rfl rfl (he.g 6 27) (op_len Tryz.underlying22 rfl (he.g 15 36) rfl)
   ·exact fun ac W hL he => stepOk_yes (j := 6) (t := 27) (b := false) rfl rfl (he.g 6 27) (op_binOp rfl (he.g 16 37) rfl (eqg_any rfl) (subN (x := n) (y := 1) hn1 (by omega)) rfl)
   ·exact fun ac W hL he => stepOk_yes (j := 6) (t := 27) (b := false) rfl rfl (he.g 6 27) (op_binOp rfl (he.g 14 35) (he.g 17 38) eqgI (eqDec hdd) rfl)
   ·exact fun ac W hL he => stepOk_yes (j := 6) (t := 27) (b := false) rfl rfl (he.g 6 27) (op_binOp rfl (he.g 13 34) (he.g 18 39) eqgB (hnb W) rfl)
   ·exact fun ac W hL he => stepOk_want rfl (op_pick (b := false) rfl (he.g 6 27) (he.g 19 40))
   intro xs W2 hL2 hx
   have v20 : xs 20 = .bool false := hx 20 (by decide)
   have HL2 := Lib.hid (HLW.out.step hL2)
   simp only [putL, Nat.reduceAdd, Act.put, List.setIfInBounds_toArray, List.set_cons_succ, List.set_cons_zero]
   rw [v20]
   clear hx v20 hL2 hph hqe hix hnb hdd
   go_wp2_with fail
   go_roundw
   case rel =>
    refine ⟨k + 1, by omega, by go_num, fun i hi => ?_, HL2.out⟩
    by_cases e : i = k
    ·subst e; rw [HAT2.out]; rfl
    ·exact HOKS.out i (by omega)
   case measure => simp [intOf]; omega
  ·obtain rfl : k = n := by omega
   have hd : decide ((k : Int) < (k : Int)) = false := decide_eq_false (by omega)
   have hd' : decide (k < k) = false := decide_eq_false (by omega)
   have hall : ∀ i, i < l.length -> hopFit l i = true := fun i hi => hoks i (by rw [<- HN.out]; exact hi)
   have hwr : Rt.wrap l = (if 512 < (wrapL l).length then ([], 3) else (wrapL l, 0)) := wrap_yes hall (by rw [HN.out]; exact hn1) (by rw [HN.out]; exact hn6)
   have HALL := Lib.hid hall
   have HWR := Lib.hid hwr
   have HA := Lib.hid (hA1.later hL)
   have HL := Lib.hid (L0.step hL)
   clear hall hwr hoks hL L0 hA1
   go_wp2_with fail
   go_loopw [5, 6] (fun v t w' => ∃ j : Nat, j <= k /\ t = .int .i64 ((j : Int) - 1) /\ v = .string ⟨(wrapL (l.drop j)).toArray⟩ /\ Later wr w') (fun _ t _ => (intOf t + 1).toNat)
   case atStart => exact ⟨k, Nat.le_refl _, by go_num, by rw [List.drop_of_length_le (by rw [HN.out]; exact Nat.le_refl _)]; rfl, Later.refl _⟩
   case round =>
    obtain ⟨j, hj, rfl, rfl, hL⟩ := hrel
    by_cases hj0 : j = 0
    ·subst hj0
     rw [show (((0 : Nat) : Int) - 1) = -1 from rfl, List.drop_zero]
     obtain ⟨out, hout⟩ : ∃ x, wrapL l = x := ⟨_, rfl⟩
     have hwr := HWR.out
     rw [hout] at hwr ⊢
     have hol : out.length <= 1000 := by
      have := wrapL_len HWF.out
      rw [<- hout]
      have := HN.out
      omega
     have hsz : (⟨out.toArray⟩ : ByteArray).size = out.length := by simp [ByteArray.size]
     have HEND := Lib.hid (HL.out.step hL).below
     clear hout HWR
     by_cases hbig : 512 < out.length
     ·have hq : decide ((512 : Int) < (out.length : Int)) = true := decide_eq_true (by omega)
      have hq' : decide (512 < out.length) = true := decide_eq_true hbig
      rw [if_pos hbig] at hwr
      have HWR := Lib.hid hwr
      clear hwr hL
      generalize out.length = m at *
      go_wp2_with fail
      exact HΦ.out _ _ ⟨by rw [HWR.out]; rfl, HEND.out⟩
     ·have hq : decide ((512 : Int) < (out.length : Int)) = false := decide_eq_false (by omega)
      have hq' : decide (512 < out.length) = false := decide_eq_false hbig
      rw [if_neg hbig] at hwr
      have HWR := Lib.hid hwr
      clear hwr hL
      generalize out.length = m at *
      go_wp2_with fail
      exact HΦ.out _ _ ⟨by rw [HWR.out]; rfl, HEND.out⟩
    ·obtain ⟨i, rfl⟩ : ∃ i, j = i + 1 := ⟨j - 1, by omega⟩
     have hcv : (((i + 1 : Nat) : Int) - 1) = (i : Int) := by omega
     rw [hcv]
     have hlt : i < k := by omega
     have hkl : i < l.length := by rw [HN.out]; exact hlt
     obtain ⟨b, o, rfl, hcell⟩ := (HA.out.later hL).at_ (k := i) (by simpa using hkl)
     rw [List.getElem_map] at hcell
     have hew := HWF.out _ (List.getElem_mem hkl)
     have hge : l.getD i noHop = l[i] := getD_lt hkl
     have hpd := hopFit_paid (HALL.out i hkl)
     have hdr := wrapL_drop hkl
     rw [hge] at hpd hdr
     obtain ⟨ed, hed⟩ : ∃ e, l[i] = e := ⟨_, rfl⟩
     rw [hed] at hcell hew hpd hdr
     obtain ⟨out, hout⟩ : ∃ x, wrapL (l.drop (i + 1)) = x := ⟨_, rfl⟩
     rw [hout] at hdr ⊢
     have hol : out.length <= 1000 := by
      have := wrapL_len (l := l.drop (i + 1)) (fun h hh => HWF.out h (List.mem_of_mem_drop hh))
      rw [hout, List.length_drop] at this
      have := HN.out
      omega
     have hix := fun W => idxHop (b := b) (o := o) (n := k) (c := c) (i := i) W hlt
     have hld := loadHopM hew hcell
     have hse := refSealed_any ed hew hpd out hol wr
     have hge0 : decide ((i : Int) ≥ 0) = true := decide_eq_true (by omega)
     have hge1 : decide ((0 : Int) <= (i : Int)) = true := decide_eq_true (by omega)
     have HDR := Lib.hid hdr
     have HLW := Lib.hid hL
     clear hed hge hdr hout hcell hL
     go_wp2_with (first
      | (guard_target =~ wpList _ _ _ (_ :: _) _ _; refine wpList_idx rfl 22 _ _ rfl (.slice (some ⟨b, o, none⟩) k c) (.int .i64 (i : Int)) rfl rfl (hix _) ?_)
      | (guard_target =~ wpList _ _ _ (_ :: _) _ _; refine wpList_load rfl 27 (.tmp 51) rfl (.pointer (some ⟨b, o + i * 66, none⟩)) rfl hld ?_)
      | (go_at_call 29; refine hse.mono ?_; clear hse; rintro e w9 ⟨rfl, hb9⟩)
      | fail)
     go_roundw
     case rel =>
      refine ⟨i, by omega, by go_num, by rw [HDR.out], HLW.out.step hb9⟩
     case measure => simp [intOf]
end Go.Proofs.YtloiaaolnfimgaaGreat
namespace Go.Proofs.YtloiaaolnfimgaaGreat
open Go.RowKit Rt
attribute [local go_sem] Oper.semAt_some
theorem retM {F : Fence} {n : Nat} {P : Program} {fn : Func} {R : Ending -> World -> Prop} {T : Array Value} {w : World} {v : Value} (h : (results fn T).run P w = .ok v w) (hR : R (.returned v) w) : bodyPostM F n P fn R .ret { tmps := T, defers := [] } w := ⟨v, h, hR⟩
end Go.Proofs.YtloiaaolnfimgaaGreat
namespace Go.Proofs.YtloiaaolnfimgaaGreat
open Go.RowKit Rt
theorem run_append_none {P : Program} (w : World) (base : Nat) (t ty U : TypeId) (z : Nat) (i : TypeInfo) (ht : P.underlying t = some (.slice U)) (hi : P.info? U = some i) (v : Value) (n : Nat) (xs : List Value) (hown : w.ownsRow base U z v n xs) (c : Nat) :
  (Builtin.append_ #[t, t] ty #[v, .slice none 0 c]).run P w = .ok v w := by
 rcases hown.2 with ⟨rfl, hn⟩ | ⟨g, cap, cur, rfl, _, _, hnc, _⟩
 ·simp [Builtin.append_, run_underlying ht, sizeOf, typeInfo, hi, Builtin.lenOf, Builtin.firstCells]
 ·simp [Builtin.append_, run_underlying ht, sizeOf, typeInfo, hi, Builtin.lenOf, Builtin.firstCells, hnc, storeCells]
theorem wpList_append_ga {T U : TypeId} {z bytes : Nat} {zv : Value} (hU : Tryz.prog.underlying T = some (.slice U)) (hI : (Tryz.prog.info? U).map (fun i => (i.zero, i.size, i.bytes)) = some (some zv, z, bytes)) (hzv : zv.cells.size = z) (hz0 : 0 < z) (hby : bytes <= 100000)
  {w : World} {ops : Array Oper} {rest : List Oper} {o : Oper} {a : Act} {Q : Exit -> Act -> World -> Prop} (hgd : o.guard = none) (s x : Operand)
  (ho : o.op = .call { callee := .builtin .append, args := #[s, x], argTypes := #[T, T] })
  (base : Nat) (v : Value) (ls : List (List Value)) (hs : a.eval s = v) (hown : OwnG U z w base v ls) (A : Option Addr) (m c : Nat) (ks : List (List Value)) (hk : ∀ l ∈ ks, l.length = z /\ ∀ u ∈ l, u.oneCell' = true) (hx : a.eval x = .slice A m c) (hm : ks.length = m) (hr : Recs z w A ks)
  (hl : ls.length + m <= 1000000000) (hbase : base <= w.heap.size)
  (h : ∀ v' w', OwnG U z w' base v' (ls ++ ks) -> w.grownBy w' v.ownBlock -> (v'.ownBlock = v.ownBlock \/ v'.ownBlock = some w.heap.size) -> wpList Tryz.prog ops Q rest (a.put o.dst v') w') : wpList Tryz.prog ops Q (o :: rest) a w := by
 by_cases hne : ks = []
 ·subst hne
  subst hm
  obtain ⟨i, hi, he⟩ := Option.map_eq_some_iff.1 hI
  injection he with hz he
  injection he with hsz hby'
  refine wpList_plain hgd fun _ hK => ?_
  have hl0 : ls.length + 0 <= 1000000000 := hl
  have hml : ls.length + 0 <= maxLen := Nat.le_trans hl0 (by decide)
  have hmb : (ls.length + 0) * bytes <= 140737488355328 := Nat.le_trans (Nat.mul_le_mul hl0 hby) (by decide)
  have key : ∃ v' w', (Builtin.append_ #[T, T] o.type #[v, .slice A 0 c]).run Tryz.prog w = .ok v' w' /\ OwnG U z w' base v' (ls ++ []) /\ w.grownBy w' v.ownBlock /\ (v'.ownBlock = v.ownBlock \/ v'.ownBlock = some w.heap.size) := by
   rcases A with _ | ad
   ·exact ⟨v, w, run_append_none w base T o.type U z i hU hi v _ _ hown.2 c, by rw [List.append_nil]; exact hown, World.grownBy.refl _ _, .inl rfl⟩
   ·obtain ⟨v', w', h1, h2, h3, _, h5⟩ := run_append_own_at (P := Tryz.prog) w base T o.type U i _ z bytes hU hi hz hsz hby' hzv hz0 v ls.length ls.flatten hown.2 ad 0 c [] (by simp) (fun j u hu => by simp at hu) (fun u hu => by simp at hu) hml hmb hbase
    exact ⟨v', w', h1, by rw [List.append_nil]; exact ⟨hown.1, by simpa using h2⟩, h3, h5⟩
  obtain ⟨v', w', hr', h2, h3, h4⟩ := key
  unfold Oper.wp execOp
  simp only [ho, resolve, invoke, builtin, Sem.run_bind, Sem.run_pure, Result.andThen_ok, List.map_toArray, List.map_cons, List.map_nil, hs, hx, List.length_nil, hr']
  exact hK _ _ (h v' w' h2 h3 h4)
 ·exact wpList_append_g hU hI hzv hz0 hby hgd s x ho base v ls hs hown A m c ks hk hx hm hr hne hl hbase h
theorem buildP0 (w : World) : (Instr.buildSlice 22 0 #[]).run Tryz.prog w = .ok (.slice (some ⟨w.heap.size, 0, none⟩) 0 0) (w.alloc (.cells #[] 27)) := by kernel_rfl
end Go.Proofs.YtloiaaolnfimgaaGreat
namespace Go.Proofs.YtloiaaolnfimgaaGreat
open Go.RowKit Rt
namespace Rt
def second (h : List UInt8) : List UInt8 := h.set 31 (h.getD 31 0 + 1)
theorem second_len {h : List UInt8} (hl : h.length = 32) : (second h).length = 32 := by unfold second; rw [List.length_set, hl]
end Rt
open Rt
theorem results_cell1 {P : Program} {fn : Func} {p : Tmp} {ty : TypeId} (h : fn.results = #[.cell p ty]) (tmps : Array Value) (w : World) (g : Nat) (t : TypeId) (cs : Array Value) (fr : Nat × Nat) (d : TypeDesc)
  (hp : tmps.getD p undef = .pointer (some ⟨g, 0, none⟩)) (hg : w.heap[g]? = some (.cells cs t fr))
  (hu : P.underlying ty = some d) (hd : (match d with | .struct _ | .array _ _ => true | _ => false) = true) (hi : (P.info? ty).map (·.size) = some cs.size) :
  (results fn tmps).run P w = .ok (.agg cs) w := by
 have hp' : tmps[p]?.getD undef = .pointer (some ⟨g, 0, none⟩) := by simpa using hp
 simp [results, h, hp', asAddr, run_loadVar_row w g t ty cs fr d hg hu hd hi]
theorem idxHp {b j : Nat} {W : World} (h : j < 32) : (Instr.indexAt 25 (.pointer (some ⟨b, 0, none⟩)) (.int .i64 (j : Int))).run Tryz.prog W = .ok (.pointer (some ⟨b, j, none⟩)) W := by
 have h1 : (j : Int) < 32 := by omega
 have h2 : (0 : Int) <= (j : Int) := by omega
 go_simp
theorem stU8 {b o : Nat} {x y : Int} {W : World} (hc : W.cell? ⟨b, o, none⟩ = some (.int .u8 x)) (hf : W.frozen? ⟨b, o, none⟩ = false) : (Instr.storeAt 5 (.pointer (some ⟨b, o, none⟩)) (.int .u8 y)).run Tryz.prog W = .ok () (W.setCell ⟨b, o, none⟩ (.int .u8 y)) := by
 go_simp
theorem second_any (h : List UInt8) (hl : h.length = 32) (w : World) : Calls Tryz.prog 20 #[.agg (hC h)] w fun e w' => e = .returned (.agg (hC (Rt.second h))) /\ Later w w' := by
 refine Calls.post fun Φ HΦ => ?_
 have k1 := (Row.new w 25 (hC h)).alloc (.cells (hC []) 25)
 have k2 := Row.new (w.alloc (.cells (hC h) 25)) 25 (hC [])
 have hL : Later w ((w.alloc (.cells (hC h) 25)).alloc (.cells (hC []) 25)) := ((Later.refl w).alloc _).alloc _
 have hb := boxH h hl w
 simp only [World.size_alloc] at k2
 have HL := Lib.hid hL
 clear hL
 go_enter Tryz.func20, Tryz.ntmps20
 go_upto_region 1 with (first
  | (guard_target =~ wpList _ _ _ (_ :: _) _ _; refine wpList_box rfl 25 (.tmp 0) rfl (.agg (hC h)) rfl hb ?_)
  | (with_reducible refine wpList_alloc rfl 25 rfl (allocH _) ?_)
  | fail)
 obtain ⟨g, hg⟩ : ∃ g, g = w.heap.size := ⟨_, rfl⟩
 try simp only [World.size_alloc]
 rw [<- hg] at k1 k2 ⊢
 have HG := Lib.hid hg
 clear hb hg
 generalize (w.alloc (.cells (hC h) 25)).alloc (.cells (hC []) 25) = w1 at *
 obtain ⟨x, hx⟩ : ∃ x, h.getD 31 0 = x := ⟨_, rfl⟩
 have hx31 : h[31]'(by omega) = x := by rw [<- hx, List.getD_eq_getElem?_getD, List.getElem?_eq_getElem (by omega)]; rfl
 have c31 : w1.cell? ⟨g, 31, none⟩ = some (.int .u8 (x.toNat : Int)) := (k1.cell 31).trans (by rw [hC_get h 31 (by omega) (by omega), hx31])
 have f31 : w1.frozen? ⟨g, 31, none⟩ = false := k1.frozen 31
 have hw8 : ((x.toNat : Int) + 1) % 256 = ((x + 1).toNat : Int) := by
  rw [UInt8.toNat_add, show (1 : UInt8).toNat = 1 from rfl]
  omega
 have hix : ∀ W, (Instr.indexAt 25 (.pointer (some ⟨g, 0, none⟩)) (.int .i64 31)).run Tryz.prog W = .ok (.pointer (some ⟨g, 31, none⟩)) W := fun W => idxHp (b := g) (j := 31) (W := W) (by decide)
 have hst8 := stU8 (y := ((x.toNat : Int) + 1) % 256) c31 f31
 have HX := Lib.hid hx
 clear hx hx31
 go_upto_region 2 with (first
  | (guard_target =~ wpList _ _ _ (_ :: _) _ _; refine wpList_idx rfl 25 _ _ rfl (.pointer (some ⟨g, 0, none⟩)) (.int .i64 31) rfl rfl (hix _) ?_)
  | (guard_target =~ wpList _ _ _ (_ :: _) _ _; refine wpList_store rfl 5 (.tmp 6) (.tmp 5) rfl (.pointer (some ⟨g, 31, none⟩)) (.int .u8 (((x.toNat : Int) + 1) % 256)) rfl rfl hst8 ?_)
  | fail)
 rw [hw8]
 have hsec : (hC h).setIfInBounds 31 (.int .u8 ((x + 1).toNat : Int)) = hC (Rt.second h) := by
  unfold Rt.second
  rw [HX.out, <- hC_set h 31 (x + 1) hl]
 have k1' : Row (w1.setCell ⟨g, 31, none⟩ (.int .u8 ((x + 1).toNat : Int))) g 25 (hC (Rt.second h)) := hsec ▸ k1.set 31 _
 have k2' := k2.far (p := ⟨g, 31, none⟩) (by show g + 1 ≠ g; omega) (.int .u8 ((x + 1).toNat : Int))
 have hB : Later w (w1.setCell ⟨g, 31, none⟩ (.int .u8 ((x + 1).toNat : Int))) := by
  have := HG.out
  exact (HL.out : Below w.heap.size w w1).setCell (p := ⟨g, 31, none⟩) (by show w.heap.size <= g; omega) _
 have hs2 := Rt.second_len hl
 obtain ⟨S, hS⟩ : ∃ S, Rt.second h = S := ⟨_, rfl⟩
 rw [hS] at k1' hs2 HΦ
 have HB := Lib.hid hB
 clear k1 k2 hB hsec hw8 hS c31 f31 hix hst8
 generalize w1.setCell ⟨g, 31, none⟩ (.int .u8 ((x + 1).toNat : Int)) = w2 at *
 have hld := loadH hs2 k1'
 obtain ⟨w3, hst, k3, hg3⟩ := storeH (b := S) (by simp) (Nat.le_of_eq hs2) k2'
 have hB3 : Later w w3 := by
  have := HG.out
  exact Below.grown HB.out hg3 (Later.size HB.out) (fun j e => by cases e; omega)
 go_wp2_with (first
  | (guard_target =~ wpList _ _ _ (_ :: _) _ _; refine wpList_load rfl 25 (.tmp 1) rfl (.pointer (some ⟨g, 0, none⟩)) rfl hld ?_)
  | (guard_target =~ wpList _ _ _ (_ :: _) _ _; refine wpList_store rfl 25 (.tmp 2) (.tmp 7) rfl (.pointer (some ⟨g + 1, 0, none⟩)) (.agg (hC S)) rfl rfl hst ?_)
  | fail)
 exact bodyPost_ret (results_cell1 rfl _ _ (g + 1) 25 (hC S) (0, 0) _ rfl k3 Tryz.underlying25 rfl (by rw [hC_size S (Nat.le_of_eq hs2)]; exact infoH)) rfl (HΦ.out _ _ ⟨rfl, hB3⟩)
end Go.Proofs.YtloiaaolnfimgaaGreat
namespace Go.Proofs.YtloiaaolnfimgaaGreat
open Go.RowKit Rt
theorem hops_any (f : FuncId) (h : List UInt8) (hl : h.length = 32) (s : ByteArray) (w : World) : Calls Tryz.prog 21 #[.func (.func f) #[] #[], .agg (hC h), .string s] w fun e w' =>
  e = .returned (.func (.func 71) #[] #[.pointer (some ⟨w.heap.size + 1, 0, none⟩), .pointer (some ⟨w.heap.size + 1 + 1, 0, none⟩), .pointer (some ⟨w.heap.size, 0, none⟩)]) /\ w' = ((w.alloc (.cells #[.func (.func f) #[] #[]] 59)).alloc (.cells (hC h) 25)).alloc (.cells #[.string s] 9) := by
 have hmf : ∀ (fn : Fn) (first cap : Array Value) (w : World), (Instr.makeFunc fn first cap).run Tryz.prog w = .ok (.func fn first cap) w := fun _ _ _ _ => rfl
 have hb := fun W => boxH h hl W
 go_enter Tryz.func21, Tryz.ntmps21
 go_wp2_with (first
  | (guard_target =~ wpList _ _ _ (_ :: _) _ _; refine wpList_box rfl 25 (.tmp 1) rfl (.agg (hC h)) rfl (hb _) ?_)
  | fail)
 go_ret
 exact ⟨by first | rfl | (simp only [World.size_alloc]; rfl), rfl⟩
theorem Wr.hashR_left {l : List UInt8} {bad : Bool} (h : (Wr.hashR l bad).2.2 = 0) : (Wr.hashR l bad).1.1.length + 32 = l.length := by
 unfold Wr.hashR at h ⊢
 by_cases hb : bad = true
 ·rw [if_pos hb] at h; simp at h
 ·rw [if_neg hb] at h ⊢
  by_cases h32 : 32 <= l.length
  ·rw [if_pos h32]
   show (l.drop 32).length + 32 = l.length
   rw [List.length_drop]
   omega
  ·rw [if_neg h32] at h; simp at h
theorem Wr.numR_left (l : List UInt8) (bad : Bool) (most : Int) : (Wr.numR l bad most).1.1.length <= l.length := by
 unfold Wr.numR
 repeat' split
 all_goals first | exact Nat.le_refl _ | (simp only [List.length_drop]; omega)
theorem Wr.textR_left (l : List UInt8) (bad : Bool) (most : Int) : (Wr.textR l bad most).2.1.length <= l.length := by
 unfold Wr.textR
 repeat' split
 all_goals first | exact Nat.zero_le _ | (simp only [Wr.textAt, List.length_take, List.length_drop]; omega)
theorem Rt.peel_left {key s : List UInt8} (h : (Rt.peel key s).2.2 = 0) : (Rt.peel key s).2.1.length + 64 <= s.length /\ s.length <= 512 := by
 unfold Rt.peel at h ⊢
 by_cases h1 : 32 <= s.length /\ s.length <= 512
 ·rw [if_pos h1] at h ⊢
  by_cases h2 : (Hm.tag key (Rt.mask key (s.take 32) (s.drop 32)) == s.take 32) = true
  ·rw [if_pos h2] at h ⊢
   have hml : (Rt.mask key (s.take 32) (s.drop 32)).length = s.length - 32 := by rw [mask_len, List.length_drop]
   generalize Rt.mask key (s.take 32) (s.drop 32) = b at *
   unfold Rt.peelB at h ⊢
   by_cases h3 : Rt.okPeel key b = true
   ·rw [if_pos h3]
    have h0 : (Rt.q1 b).2.2 = 0 := by
     unfold Rt.okPeel at h3
     rw [Bool.and_eq_true] at h3
     exact of_decide_eq_true (List.all_eq_true.1 h3.1 0 (by simp))
    have e1 : (Rt.q1 b).1.1.length + 32 = b.length := Wr.hashR_left h0
    have e2 : (Rt.q2 b).1.1.length <= (Rt.q1 b).1.1.length := Wr.numR_left _ _ _
    have e3 : (Rt.q3 b).1.1.length <= (Rt.q2 b).1.1.length := Wr.numR_left _ _ _
    have e4 : (Rt.q4 b).2.1.length <= (Rt.q3 b).1.1.length := Wr.textR_left _ _ _
    show (Rt.q4 b).2.1.length + 64 <= s.length /\ s.length <= 512
    omega
   ·rw [if_neg h3] at h; simp at h
  ·rw [if_neg h2] at h; simp at h
 ·rw [if_neg h1] at h; simp at h
namespace Rt
def walk (key s : List UInt8) : Nat -> List UInt8 × List UInt8
 | 0 => (key, s)
 | k + 1 => (second (peel (walk key s k).1 (walk key s k).2).1.next, (peel (walk key s k).1 (walk key s k).2).2.1)
def stepK (key s : List UInt8) (k : Nat) : Hop × List UInt8 × Int := peel (walk key s k).1 (walk key s k).2
def good (key s : List UInt8) (k : Nat) : Prop := ∀ i, i < k -> (stepK key s i).2.2 = 0
theorem good_left {key s : List UInt8} : ∀ {k : Nat}, good key s k -> (walk key s k).2.length + 64 * k <= s.length
 | 0, _ => by simp [walk]
 | k + 1, h => by
  have h1 := good_left (k := k) (fun i hi => h i (by omega))
  have h2 : (stepK key s k).2.2 = 0 := h k (by omega)
  have h3 := (peel_left (key := (walk key s k).1) (s := (walk key s k).2) h2).1
  show (peel (walk key s k).1 (walk key s k).2).2.1.length + 64 * (k + 1) <= s.length
  omega
theorem good_most {key s : List UInt8} {k : Nat} (h : good key s k) : k <= 8 := by
 rcases Nat.eq_zero_or_pos k with h0 | h0
 ·omega
 have h1 := good_left h
 have h2 : (stepK key s 0).2.2 = 0 := h 0 h0
 have h3 : s.length <= 512 := (peel_left (key := key) (s := s) h2).2
 omega
theorem walk_len {key s : List UInt8} (hk : key.length = 32) : ∀ k, (walk key s k).1.length = 32
 | 0 => hk
 | k + 1 => second_len (peel_wf (walk_len (s := s) hk k)).2
end Rt
end Go.Proofs.YtloiaaolnfimgaaGreat
namespace Go.Proofs.YtloiaaolnfimgaaGreat
open Go.RowKit Rt
attribute [local go_sem] Oper.semAt_some
abbrev stE (x : Int × Rt.Hop) : Array Value := #[.int .i64 x.1, .agg (hopC x.2)]
theorem loadKeyFn {b o : Nat} {v : Value} {W : World} (hc : W.cell? ⟨b, o, none⟩ = some v) : (Instr.loadAt 59 (.pointer (some ⟨b, o, none⟩))).run Tryz.prog W = .ok v W := by
 go_simp
theorem hops1_seq (key s : List UInt8) (hk : key.length = 32) (g : Nat) (w : World) (n1 : Nat) (hn1 : 3 <= n1) (D : Nat -> Prop) (hDw : ∀ b, D b -> b < w.heap.size + 2) (hD : ¬ D g /\ ¬ D (g + 1) /\ ¬ D (g + 1 + 1)) (k3 : Row w g 59 #[.func (.func 20) #[] #[]]) (k1 : Row w (g + 1) 25 (hC key)) (k2 : Row w (g + 1 + 1) 9 #[.string ⟨s.toArray⟩]) :
  SeqW Fence.wide n1 Tryz.prog 71 #[.pointer (some ⟨g + 1, 0, none⟩), .pointer (some ⟨g + 1 + 1, 0, none⟩), .pointer (some ⟨g, 0, none⟩)] stE (fun _ => KeepB D) (fun xs => good key s xs.length /\ (stepK key s xs.length).2.2 ≠ 0) (fun _ => True) (fun pre x _ => good key s (pre.length + 1) /\ x = ((pre.length : Int), (stepK key s pre.length).1)) (fun _ => False) w := fun k0 J Jx W hW hW2 hJ hJx hY h0 => by
 have hgl := k3.lt
 have k3W := k3.belowAll hW
 have k1W := k1.belowAll hW
 have k2W := k2.belowAll hW
 have HY := Lib.hid hY
 have HJ := Lib.hid hJ
 have HJX := Lib.hid hJx
 clear hY hJ hJx hW k3 k1 k2
 refine callsIn_of_wp Tryz.func71 rfl trivial ?_ rfl
 simp only [Tryz.ntmps71, List.size_toArray, List.length_cons, List.length_nil, Nat.reduceAdd, Nat.reduceSub, Array.replicate_succ, Array.replicate_zero, List.push_toArray, List.append_toArray, List.nil_append, List.cons_append]
 refine wpIn_wide.2 ?_
 refine wp_scope_straight ?_
 refine (wpIn_wide (n := n1)).1 ?_
 refine wpIn_seq_k fun KQ hKQ => ?_
 refine wpIn_region_put wide_wide [Pr.eq (.agg (hC key)), Pr.eq (.string ⟨s.toArray⟩), Pr.newT W.heap.size 25 is32, Pr.any] 2 3 25 is32 (fun cs X => cs = hC key) (fun cs X X' h _ => h) rfl rfl ⟨putOk_eq, putOk_eq, putOk_new, putOk_any, trivial⟩ (by kernel_rfl) (by kernel_rfl) (by kernel_rfl) (by kernel_rfl) (by kernel_rfl) (by kernel_rfl) rfl (by decide) (by kernel_rfl) ⟨?_, ?_, ?_, ?_, trivial⟩ ?_
 ·exact putStep_val (by decide) fun ac W hL he => stepOk_want rfl (op_load rfl (he.k 1) (loadH hk (k1W.later hL)) rfl)
 ·exact putStep_val (by decide) fun ac W hL he => stepOk_want rfl (op_load rfl (he.k 2) (ldStr (((k2W.later hL).cell 0).trans rfl)) rfl)
 ·exact putStep_val (by decide) fun ac W hL he => stepOk_want rfl (op_alloc rfl (allocH W) (below_new W _) ⟨W.heap.size, _, rfl, hL.size, (by rfl), Row.new W _ _⟩)
 ·refine putStep_put (.tmp 11) 5 rfl rfl rfl rfl (by kernel_rfl) fun ac W g cs hL he hg hz hr => ?_; have ey := (he.g 0 11); rw [show ac.eval (.tmp 11) = .agg (hC key) from ey]; obtain ⟨W', s1, s2, s3⟩ := run_put_row (P := Tryz.prog) (T := 25) (vs := hC key) hr (by rw [hC_size key (by omega), hz]) (by rw [hC_size key (by omega)]; exact infoH) (hC_one key); exact ⟨W', _, s1, s2, hC_size key (by omega), s3, rfl⟩
 intro xs X hL hx hput hk2 hget
 obtain ⟨q, cs, e5, hq, kq, rfl⟩ := hput
 have v1 : xs 1 = .string ⟨s.toArray⟩ := hx 1 (by decide)
 refine last_assign rfl ((hget 1 12 (by decide) rfl).trans v1) ?_
 have k3X := k3W.later hL
 clear hx hk2 hget k1W k2W k3W
 simp only [initL, lastL, putL, Nat.reduceAdd, Act.put, List.setIfInBounds_toArray, List.set_cons_succ, List.set_cons_zero]
 rw [e5]
 refine hKQ _ _ ?_
 clear hKQ
 refine wpIn_wide.2 ?_
 go_wp2_with fail
 apply wp_label
 go_wp2_with fail
 have hX0 : J [] X := HJ.out.below h0 (hL.below.mono (Nat.le_refl _))
 have k3l := k3X
 obtain ⟨B0, hB0⟩ : ∃ B, B = W.heap.size := ⟨_, rfl⟩
 have hqB : B0 <= q := by rw [hB0]; exact hq
 have HB0 := Lib.hid hB0
 clear h0 hL hq hB0
 go_loopw [6, 7] (fun v t wr => ∃ pre : List (Int × Rt.Hop), good key s pre.length /\ v = .string ⟨(Rt.walk key s pre.length).2.toArray⟩ /\ t = .int .i64 (pre.length : Int) /\ Row wr q 25 (hC (Rt.walk key s pre.length).1) /\ Row wr g 59 #[.func (.func 20) #[] #[]] /\ J pre wr) (fun _ t _ => 9 - (intOf t).toNat)
 case atStart => exact ⟨[], fun i hi => by simp at hi, rfl, rfl, kq, k3l, hX0⟩
 case round =>
  obtain ⟨pre, hgd, rfl, rfl, kqr, k3r, hJr⟩ := hrel
  have h8 := good_most hgd
  have hkl := walk_len (s := s) hk pre.length
  obtain ⟨K, hK⟩ : ∃ K, (Rt.walk key s pre.length).1 = K := ⟨_, rfl⟩
  obtain ⟨R, hR⟩ : ∃ R, (Rt.walk key s pre.length).2 = R := ⟨_, rfl⟩
  have hst : stepK key s pre.length = Rt.peel K R := by unfold stepK; rw [hK, hR]
  rw [hK] at kqr hkl
  rw [hR]
  have hpl := peel_any K R hkl wr
  have hpw := peel_wf (s := R) hkl
  obtain ⟨P0, hP0⟩ : ∃ p, Rt.peel K R = p := ⟨_, rfl⟩
  obtain ⟨ph, pr, pe⟩ := P0
  rw [hP0] at hpl hst hpw
  simp only at hpl hpw
  have hld := loadH hkl kqr
  have HST := Lib.hid hst
  have HP0 := Lib.hid hP0
  clear hst hP0
  go_upto_region 4 with (first
   | (guard_target =~ wpList _ _ _ (_ :: _) _ _; refine wpList_load rfl 25 (.tmp 5) rfl (.pointer (some ⟨q, 0, none⟩)) rfl hld ?_)
   | (go_at_call 12; refine hpl.mono ?_; clear hpl; rintro e w5 ⟨rfl, L5⟩; obtain ⟨w6, hs6, k6, L6⟩ := newHop w5 hpw)
   | (with_reducible refine wpList_alloc rfl 27 rfl (allocHop _) ?_)
   | (guard_target =~ wpList _ _ _ (_ :: _) _ _; refine wpList_store rfl 27 (.tmp 8) (.tmp 19) rfl (.pointer (some ⟨w5.heap.size, 0, none⟩)) (.agg (hopC ph)) rfl rfl hs6 ?_)
   | fail)
  have hne : ∀ X', (binOp .neq 28 (.int .i64 pe) (.int .i64 0)).run Tryz.prog X' = .ok (.bool (!(pe == 0))) X' := fun X' => by kernel_rfl
  have hWw : W.heap.size <= wr.heap.size := by have := kqr.lt; have := HB0.out; omega
  have L56 : Later wr w6 := (show Later wr w5 from L5).step L6
  have k36 := k3r.later L56
  have kq6 := kqr.later L56
  have hw5 : wr.heap.size <= w5.heap.size := Later.size L5
  have L06 : Below W.heap.size wr w6 := Below.mono ((show Later wr w5 from L5).step L6) hWw
  have HJR := Lib.hid hJr
  have HGD := Lib.hid hgd
  clear hs6 hld hJr hgd
  by_cases hpe : pe = 0
  ·subst hpe
   have hJ6 := HJ.out.below HJR.out L06
   have hgd1 : good key s (pre.length + 1) := fun i hi => by
    by_cases e : i = pre.length
    ·rw [e, HST.out]
    ·exact HGD.out i (by omega)
   obtain ⟨fn, tmps, assign, body, hy, hR⟩ := HY.out pre ((pre.length : Int), ph) w6 hJ6 ⟨hgd1, by rw [HST.out]⟩
   have hld8 := loadHopR hpw k6
   have HK6 := Lib.hid k6
   have HGD1 := Lib.hid hgd1
   clear hne k6 hgd1 hJ6
   refine (wpIn_wide (n := n1)).1 ?_
   gi_wp2_with (first
    | (refine wpListIn_loadG rfl 27 (.tmp 8) rfl (.pointer (some ⟨w5.heap.size, 0, none⟩)) rfl hld8 ?_)
    | fail)
   refine ⟨fun _ => by omega, hR.mono ?_⟩
   have hDq : ¬ D q := fun h => by have := hDw _ h; have := HB0.out; omega
   have hD8 : ¬ D w5.heap.size := fun h => by have := hDw _ h; have := HB0.out; omega
   rintro e Y (⟨rfl, hJ5, hk5⟩ | ⟨rfl, hJx5, hk5⟩)
   ·have k3Y := hk5.row k36 hD.1
    have kqY := hk5.row kq6 hDq
    have k8Y := hk5.row HK6.out hD8
    have hwY : w6.heap.size <= Y.heap.size := hk5.size
    have hlf := loadKeyFn ((k3Y.cell 0).trans rfl)
    have hf1 : (Instr.fieldAt 27 (.pointer (some ⟨w5.heap.size, 0, none⟩)) 1).run Tryz.prog Y = .ok (.pointer (some ⟨w5.heap.size, 32, none⟩)) Y := fHop1
    have hl1 := loadNextR hpw k8Y
    have HJ5 := Lib.hid hJ5
    clear hk5 hy hR hld8 HK6 k36 kq6 hJ5
    gi_wp2_with fail
    go_upto_region 2 with (first
     | (guard_target =~ wpList _ _ _ (_ :: _) _ _; refine wpList_load rfl 59 (.tmp 3) rfl (.pointer (some ⟨g, 0, none⟩)) rfl hlf ?_)
     | (guard_target =~ wpList _ _ _ (_ :: _) _ _; refine wpList_field rfl 27 (.tmp 8) 1 rfl (.pointer (some ⟨w5.heap.size, 0, none⟩)) rfl hf1 ?_)
     | (guard_target =~ wpList _ _ _ (_ :: _) _ _; refine wpList_load rfl 25 (.tmp 32) rfl (.pointer (some ⟨w5.heap.size, 32, none⟩)) rfl hl1 ?_)
     | (go_at_call 20; refine (second_any _ hpw.2 _).mono ?_; rintro e w7 ⟨rfl, L7⟩; obtain ⟨w8, hst, kq8, hg8⟩ := storeH (a := K) (b := second ph.next) (Nat.le_of_eq hkl) (Nat.le_of_eq (second_len hpw.2)) (kqY.later L7))
     | (guard_target =~ wpList _ _ _ (_ :: _) _ _; refine wpList_store rfl 25 (.tmp 5) (.tmp 34) rfl (.pointer (some ⟨q, 0, none⟩)) (.agg (hC (second ph.next))) rfl rfl hst ?_)
     | fail)
    have e1 : IntKind.i64.wrap ((pre.length : Int) + 1) = (pre.length : Int) + 1 := IntWalk.i64_in _ (by omega)
    have hplen : (pre ++ [((pre.length : Int), ph)]).length = pre.length + 1 := by simp
    have hwk : Rt.walk key s (pre.length + 1) = (second ph.next, pr) := by
     show (second (stepK key s pre.length).1.next, (stepK key s pre.length).2.1) = _
     rw [HST.out]
    have hYW : W.heap.size <= Y.heap.size := by have := L06.size; omega
    have k38 := (k3Y.later L7).grown hg8 (fun e => by injection e with e; have := HB0.out; omega)
    have hb8 : Below W.heap.size Y w8 := Below.grown (Below.mono L7 hYW) hg8 (Nat.le_trans hYW (Later.size L7)) (fun j e => by cases e; have := HB0.out; omega)
    have HWK := Lib.hid hwk
    have HPLEN := Lib.hid hplen
    have HJ8 := HJ.out.below HJ5.out hb8
    clear hwk hplen hg8 hst hlf hf1 hl1 L7
    go_wp2_with fail
    go_roundw
    case rel =>
     refine ⟨pre ++ [((pre.length : Int), ph)], ?_, ?_, ?_, ?_, k38, HJ8⟩
     ·rw [HPLEN.out]; exact HGD1.out
     ·rw [HPLEN.out, HWK.out]
     ·rw [HPLEN.out]; go_num
     ·rw [HPLEN.out, HWK.out]; exact kq8
    case measure => simp [intOf]; omega
   ·gi_wp2_with fail
    go_wp2_with fail
    exact ⟨rfl, _, results_none rfl _ _ _, ⟨_, rfl⟩, .inr ⟨_, trivial, hJx5⟩⟩
  ·have e0 : (!(pe == 0)) = true := by simp [hpe]
   simp only [e0] at hne
   refine wp_region_seqL [Pr.eq (.int .i64 pe), Pr.eq (.bool true), Pr.eq (.bool true), Pr.eq (undef), Pr.eq (undef), Pr.eq (undef), Pr.eq (undef), Pr.eq (undef), Pr.eq (.bool true)] (by kernel_rfl) (by kernel_rfl) (by kernel_rfl) ⟨?_, ?_, ?_, ?_, ?_, ?_, ?_, ?_, ?_, trivial⟩ ?_
   ·exact fun ac W hL he => stepOk_want rfl (op_move rfl (he.k 10))
   ·exact fun ac W hL he => stepOk_want rfl (op_binOp rfl (he.g 0 22) rfl eqgI (hne W) rfl)
   ·exact fun ac W hL he => stepOk_want rfl (op_move rfl (he.g 1 23))
   iterate 5 (exact fun ac W hL he => stepOk_no rfl rfl (he.g 2 24) (by decide) rfl)
   ·exact fun ac W hL he => stepOk_want rfl (op_pick (b := true) rfl (he.g 2 24) rfl)
   intro xs W2 hL2 hx
   have v8 : xs 8 = .bool true := hx 8 (by decide)
   simp only [putL, Nat.reduceAdd, Act.put, List.setIfInBounds_toArray, List.set_cons_succ, List.set_cons_zero]
   rw [v8]
   have hJ2 := HJ.out.below HJR.out (L06.trans (hL2.below.mono (Nat.le_trans hWw L06.size)))
   clear hx v8 hL2 hne
   go_wp2_with fail
   exact ⟨rfl, _, results_none rfl _ _ _, ⟨_, rfl⟩, .inl ⟨pre, ⟨HGD.out, by rw [HST.out]; exact hpe⟩, hJ2⟩⟩
end Go.Proofs.YtloiaaolnfimgaaGreat
namespace Go.Proofs.YtloiaaolnfimgaaGreat
open Go.RowKit Rt
namespace Rt
def keyAt (l : List Hop) (i : Nat) : Hop := if i = 0 then l.getD 0 noHop else { l.getD i noHop with key := second (l.getD (i - 1) noHop).next }
def keyed (l : List Hop) (k : Nat) : List Hop := (List.range l.length).map fun i => if i < k then keyAt l i else l.getD i noHop
theorem keyed_len (l : List Hop) (k : Nat) : (keyed l k).length = l.length := by simp [keyed]
theorem keyed_get (l : List Hop) (k i : Nat) (h : i < l.length) : (keyed l k)[i]'(by rw [keyed_len]; exact h) = if i < k then keyAt l i else l.getD i noHop := by simp [keyed]
theorem keyed_one (l : List Hop) : keyed l 1 = l := by
 apply List.ext_getElem (keyed_len l 1)
 intro i h1 h2
 rw [keyed_get l 1 i h2, getD_lt h2]
 split
 ·have : i = 0 := by omega
  subst this
  unfold keyAt
  rw [if_pos rfl, getD_lt h2]
 ·rfl
theorem keyAt_next (l : List Hop) (i : Nat) : (keyAt l i).next = (l.getD i noHop).next := by
 unfold keyAt
 split
 ·next h => subst h; rfl
 ·rfl
theorem getD_wf {l : List Hop} (hw : ∀ e ∈ l, e.wf) (i : Nat) : (l.getD i noHop).wf := by
 by_cases h : i < l.length
 ·rw [getD_lt h]; exact hw _ (List.getElem_mem h)
 ·rw [List.getD_eq_getElem?_getD, List.getElem?_eq_none (by omega)]; exact noHop_wf
theorem keyAt_wf {l : List Hop} (hw : ∀ e ∈ l, e.wf) (i : Nat) : (keyAt l i).wf := by
 unfold keyAt
 split
 ·exact getD_wf hw 0
 ·exact ⟨second_len (getD_wf hw _).2, (getD_wf hw _).2⟩
theorem keyed_wf {l : List Hop} (hw : ∀ e ∈ l, e.wf) (k : Nat) : ∀ e ∈ keyed l k, e.wf := by
 intro e he
 obtain ⟨i, _, rfl⟩ := List.mem_map.1 he
 split
 ·exact keyAt_wf hw i
 ·exact getD_wf hw i
def wantL (key s : List UInt8) (k : Nat) : List Hop := (List.range k).map fun i => (stepK key s i).1
theorem wantL_len (key s : List UInt8) (k : Nat) : (wantL key s k).length = k := by simp [wantL]
theorem wantL_get (key s : List UInt8) (k i : Nat) (h : i < k) : (wantL key s k)[i]'(by rw [wantL_len]; exact h) = (stepK key s i).1 := by simp [wantL]
theorem wantL_succ (key s : List UInt8) (k : Nat) : wantL key s (k + 1) = wantL key s k ++ [(stepK key s k).1] := by simp [wantL, List.range_succ]
theorem stepK_wf {key s : List UInt8} (hk : key.length = 32) (k : Nat) : (stepK key s k).1.wf := peel_wf (walk_len (s := s) hk k)
end Rt
theorem OwnG.setKey {w : World} {base g n c : Nat} {l : List Hop} (hw : ∀ e ∈ l, e.wf) (h : OwnG 27 66 w base (.slice (some ⟨g, 0, none⟩) n c) (l.map hopL)) (i : Nat) (hi : i < l.length) (k : List UInt8) (hk : k.length = 32) :
  ∃ W', (Instr.storeAt 25 (.pointer (some ⟨g, 0 + i * 66, none⟩)) (.agg (hC k))).run Tryz.prog w = .ok () W' /\ OwnG 27 66 W' base (.slice (some ⟨g, 0, none⟩) n c) ((l.set i { l[i] with key := k }).map hopL) /\ w.grownBy W' (some g) := by
 obtain ⟨h0, h1, h2⟩ := h
 rcases h2 with ⟨e, h3⟩ | ⟨g', cap, cur, e, hb, hh, hn, hc, hs, ht⟩
 ·cases e
 injection e with e1 e2 e3
 injection e1 with e1
 injection e1 with e1
 subst e1 e3
 have hlen : ∀ x ∈ l.map hopL, x.length = 66 := fun x hx => (h0 x hx).1
 have hfl := rec_len 66 _ hlen
 rw [List.length_map] at hfl e2 ht hn h1
 have hle : l.length * 66 <= cur.size := by rw [hs]; exact Nat.mul_le_mul_right 66 hn
 have hi66 : i * 66 + 66 <= l.length * 66 := by omega
 have hwi := hw _ (List.getElem_mem hi)
 obtain ⟨W', r1, r2, r3⟩ := storeHash (o := 0 + i * 66) k hk (show Row w g 27 cur from hh) (by omega)
 have hpre : ((l.take i).map hopL).flatten.length = i * 66 := by
  rw [rec_len 66 _ (fun x hx => by obtain ⟨y, hy, rfl⟩ := List.mem_map.1 hx; exact hopL_len (hw _ (List.mem_of_mem_take hy))), List.length_map, List.length_take, Nat.min_eq_left (by omega)]
 have hspl : (l.map hopL).flatten = ((l.take i).map hopL).flatten ++ hopL l[i] ++ ((l.drop (i + 1)).map hopL).flatten := by
  conv => lhs; rw [<- List.take_append_drop i l, List.drop_eq_getElem_cons hi]
  rw [List.map_append, List.map_cons, List.flatten_append, List.flatten_cons, List.append_assoc]
 have hspl2 : ((l.set i { l[i] with key := k }).map hopL).flatten = ((l.take i).map hopL).flatten ++ hopL { l[i] with key := k } ++ ((l.drop (i + 1)).map hopL).flatten := by
  rw [List.set_eq_take_append_cons_drop, if_pos hi, List.map_append, List.map_cons, List.flatten_append, List.flatten_cons, List.append_assoc]
 have hcur : cur = (((l.take i).map hopL).flatten ++ hopL l[i] ++ (((l.drop (i + 1)).map hopL).flatten ++ cur.toList.drop (l.length * 66))).toArray := by
  rw [<- List.append_assoc, <- hspl, <- ht, List.take_append_drop]
 have hset := hopC_setKey hwi k hk ((l.take i).map hopL).flatten (((l.drop (i + 1)).map hopL).flatten ++ cur.toList.drop (l.length * 66))
 rw [hpre, <- hcur] at hset
 rw [Nat.zero_add, hset, <- List.append_assoc, <- hspl2] at r2
 have hl2 : ((l.set i { l[i] with key := k }).map hopL).flatten.length = l.length * 66 := by
  have g1 := congrArg List.length hspl
  rw [hspl2]
  simp only [List.length_append, hfl, hpre, hopL_len hwi] at g1 ⊢
  rw [hopL_len (⟨hk, hwi.2⟩ : ({ l[i] with key := k } : Hop).wf)]
  omega
 refine ⟨W', r1, ⟨fun x hx => ?_, by rw [hl2, List.length_map, List.length_set], .inr ⟨g, c, _, by rw [List.length_map, List.length_set, e2], hb, r2, by rw [List.length_map, List.length_set]; exact hn, hc, ?_, ?_⟩⟩, r3⟩
 ·obtain ⟨y, hy, rfl⟩ := List.mem_map.1 hx
  have hyw : y.wf := by
   rcases List.mem_or_eq_of_mem_set hy with h | h
   ·exact hw _ h
   ·rw [h]; exact ⟨hk, hwi.2⟩
  exact ⟨hopL_len hyw, fun u hu => List.all_eq_true.1 (by have := hopC_one y; simpa using this) u hu⟩
 ·simp only [List.size_toArray, List.length_append, hl2, List.length_drop, Array.length_toList, hs]
  rw [hs] at hle
  omega
 ·rw [List.length_map, List.length_set, List.toList_toArray, List.take_append_of_le_length (by rw [hl2]; exact Nat.le_refl _), List.take_of_length_le (by rw [hl2]; exact Nat.le_refl _)]
theorem keyed_next (l : List Hop) (k : Nat) (h1 : 1 <= k) (h : k < l.length) : keyed l (k + 1) = (keyed l k).set k { (keyed l k)[k]'(by rw [keyed_len]; exact h) with key := second ((keyed l k)[k - 1]'(by rw [keyed_len]; omega)).next } := by
 apply List.ext_getElem (by simp [keyed_len])
 intro i h2 h3
 have hi : i < l.length := by rw [keyed_len] at h2; exact h2
 rw [keyed_get l (k + 1) i hi, List.getElem_set]
 by_cases e : k = i
 ·subst e
  rw [if_pos rfl, if_pos (by omega), keyed_get l k k h, if_neg (by omega), keyed_get l k (k - 1) (by omega), if_pos (by omega), keyAt_next]
  unfold keyAt
  rw [if_neg (by omega)]
 ·rw [if_neg e, keyed_get l k i hi]
  by_cases hik : i < k
  ·rw [if_pos hik, if_pos (by omega)]
  ·rw [if_neg hik, if_neg (by omega)]
theorem conv_ownq (w : World) (l : List UInt8) (hl : l.length <= 9223372036854775807) : ∃ W cap, (convert 9 60 (.string ⟨l.toArray⟩)).run Tryz.prog w = .ok (.slice (some ⟨w.heap.size, 0, none⟩) l.length cap) W /\ OwnQ 5 W w.heap.size (.slice (some ⟨w.heap.size, 0, none⟩) l.length cap) l /\ Later w W := by
 refine ⟨_, _, Lib.run_convert_string_bytes (P := Tryz.prog) w 9 60 5 ⟨l.toArray⟩ Tryz.underlying9 Tryz.underlying60 Tryz.underlying5, ⟨w.heap.size, _, _, _, rfl, Nat.le_refl _, Lib.bytesWorld_at_new _ _ _, fun i hi h => ?_, grownCap_ge _ _ _ _, grownCap_le_maxLen w l.length 0 5 (by unfold maxLen; exact hl), ?_, ?_⟩, ⟨rfl, rfl, rfl, by rw [Lib.bytesWorld_size]; omega, fun b hb => Lib.bytesWorld_at_old _ _ _ b hb⟩⟩
 ·omega
 ·have h1 := grownCap_ge w l.length 0 5
  have e : (ByteArray.mk l.toArray).size = l.length := by simp [ByteArray.size]
  rw [Lib.bytesCells, Array.size_append, Array.size_map, Array.size_replicate, e]
  simp
  omega
 ·simp [Lib.bytesCells]
theorem OwnQ.put {U : TypeId} {w : World} {base g n cap : Nat} {l : List UInt8} (h : OwnQ U w base (.slice (some ⟨g, 0, none⟩) n cap) l) (i : Nat) (hi : i < l.length) (y : UInt8) :
  w.cell? ⟨g, i, none⟩ = some (byteV (l[i])) /\ w.frozen? ⟨g, i, none⟩ = false /\ OwnQ U (w.setCell ⟨g, i, none⟩ (byteV y)) base (.slice (some ⟨g, 0, none⟩) n cap) (l.set i y) := by
 obtain ⟨g', cap', cur, fr, e, h1, h2, h3, h4, h5, h6, h7⟩ := h
 injection e with e1 e2 e3
 injection e1 with e1
 injection e1 with e1
 subst e1 e3
 have hic : i < cur.size := by omega
 have hcur : cur[i]? = some (byteV l[i]) := by
  have : (cur.toList.take l.length)[i]? = (l.map byteV)[i]? := by rw [h7]
  rw [List.getElem?_take_of_lt hi, Array.getElem?_toList, List.getElem?_map, List.getElem?_eq_getElem hi] at this
  exact this
 refine ⟨by simp [World.cell?, h2, hcur], ?_, g, cap, cur.setIfInBounds i (byteV y), fr, by rw [List.length_set, e2], h1, ?_, by simpa using h3, by rw [List.length_set]; exact h4, h5, by simpa using h6, ?_⟩
 ·have := h3 i hic
  simp [World.frozen?, h2]
  omega
 ·rw [setCell_eq_setRow w g i cur U fr _ h2]
  exact setRow_heap w g cur _ U fr h2
 ·rw [List.length_set, Array.toList_setIfInBounds, List.take_set, h7, List.map_set]
theorem ne_typesR {w : World} {k q : Nat} {T U : TypeId} {cs cs' : Array Value} (h1 : Row w k T cs) (h2 : Row w q U cs') (hT : T ≠ U) : k ≠ q := fun e => by
 subst e
 exact hT (Row.type h1 h2)
theorem OwnG.addr {T : TypeId} {z : Nat} {w : World} {base : Nat} {A : Option Addr} {n c : Nat} {ls : List (List Value)} (h : OwnG T z w base (.slice A n c) ls) (hn : 0 < n) : ∃ g, A = some ⟨g, 0, none⟩ := by
 rcases h.2.2 with ⟨e, _⟩ | ⟨g, cap, cur, e, _⟩
 ·injection e with _ e; omega
 ·injection e with e; exact ⟨g, e⟩
theorem OwnG.recs {T : TypeId} {z : Nat} {w : World} {base : Nat} {A : Option Addr} {n c : Nat} {ls : List (List Value)} (h : OwnG T z w base (.slice A n c) ls) : Recs z w A ls := by
 obtain ⟨A', c', e, _, _, hr⟩ := h.slice
 injection e with e
 rw [e]; exact hr
structure BW (w : World) (q14 q15 : Nat) (v14 : Value) (key : List UInt8) (hs : List Hop) (W : World) : Prop where
 r14 : Row W q14 22 #[v14]
 own : OwnG 27 66 W w.heap.size v14 (hs.map hopL)
 r15 : Row W q15 25 (hC key)
 lat : Later w W
theorem BW.later {w W W' : World} {q14 q15 : Nat} {v14 : Value} {key : List UInt8} {hs : List Hop} (h : BW w q14 q15 v14 key hs W) (hL : Later W W') : BW w q14 q15 v14 key hs W' :=
 ⟨h.r14.later hL, h.own.later hL, h.r15.later hL, h.lat.step hL⟩
theorem BW.grow {w W W' : World} {q14 q15 : Nat} {v14 v' : Value} {key : List UInt8} {hs hs' : List Hop} (h : BW w q14 q15 v14 key hs W) (hq : w.heap.size <= q14) (hg : W.grownBy W' v14.ownBlock) (ho : OwnG 27 66 W' w.heap.size v' (hs'.map hopL)) :
  W'.cell? ⟨q14, 0, none⟩ = some v14 /\ W'.frozen? ⟨q14, 0, none⟩ = false /\ BW w q14 q15 v' key hs' (W'.setCell ⟨q14, 0, none⟩ v') := by
 have hT := fun {k} (e : v14.ownBlock = some k) => h.own.type e
 have ne : ∀ {g : Nat} {T : TypeId} {cs : Array Value}, Row W g T cs -> 27 ≠ T -> some g ≠ v14.ownBlock := fun hr hne e => by
  obtain ⟨cs', h1⟩ := hT e.symm
  exact ne_typesR h1 hr hne rfl
 have r14 := h.r14.grown hg (ne h.r14 (by decide))
 have r15 := h.r15.grown hg (ne h.r15 (by decide))
 have hl : Later w W' := Below.grown h.lat hg (Later.size h.lat) (fun j e => (h.own.at_ j e).1)
 refine ⟨(r14.cell 0).trans rfl, r14.frozen 0, r14.set 0 v', ho.keep fun b _ e => ?_, r15.far (ne_typesR r15 r14 (by decide)) v', hl.setCell (p := ⟨q14, 0, none⟩) hq v'⟩
 obtain ⟨cs', h1⟩ := ho.type e
 exact heap_setCell_other W' ⟨q14, 0, none⟩ b v' (ne_typesR h1 r14 (by decide))
theorem BW.key {w W W' : World} {q14 q15 : Nat} {v14 : Value} {key key' : List UInt8} {hs : List Hop} (h : BW w q14 q15 v14 key hs W) (hq : w.heap.size <= q15) (hr : Row W' q15 25 (hC key')) (hg : W.grownBy W' (some q15)) : BW w q14 q15 v14 key' hs W' := by
 have hn : q14 ≠ q15 := ne_typesR h.r14 h.r15 (by decide)
 refine ⟨h.r14.grown hg (fun e => hn (by injection e)), h.own.keep fun b hb e => ?_, hr, Below.grown h.lat hg (Later.size h.lat) (fun j e => by cases e; exact hq)⟩
 obtain ⟨cs', h1⟩ := h.own.type e
 exact hg.block b hb (fun e2 => ne_typesR h1 h.r15 (by decide) (by injection e2))
theorem KeepB.setc {D : Nat -> Prop} (X : World) (p : Addr) (v : Value) (h : D p.block) : KeepB D X (X.setCell p v) := ⟨by simp [World.setCell], fun b hb hd => heap_setCell_other X p b v (by intro e; subst e; exact hd h)⟩
theorem Row.upto {w w' : World} {g M : Nat} {t : TypeId} {cs : Array Value} (h : Row w g t cs) (hb : Below M w w') (hg : g < M) : Row w' g t cs := (hb.block g hg).trans h
structure HG (w1 : World) (M q r : Nat) (many : Int) (gk : Nat) (key s : List UInt8) (q14 bp : Nat) (A14 : Option Addr) (K c14 : Nat) (hs : List Hop) (W : World) : Prop where
 size : M <= W.heap.size
 k5 : Row W q 3 #[.int .i64 many]
 k6 : Row W r 4 #[.bool false]
 k3 : Row W gk 59 #[.func (.func 20) #[] #[]]
 k1 : Row W (gk + 1) 25 (hC key)
 k2 : Row W (gk + 1 + 1) 9 #[.string ⟨s.toArray⟩]
 k14 : Row W q14 22 #[.slice A14 K c14]
 own14 : OwnG 27 66 W bp (.slice A14 K c14) (hs.map hopL)
 lat : Later w1 W
 hq : q < M
 hr : r < M
 hk : gk + 1 + 1 < M
 h14 : q14 < M
 hown : ∀ k, Value.ownBlock (.slice A14 K c14) = some k -> k < M
 h1 : w1.heap.size <= M
theorem HG.below {w1 : World} {M q r : Nat} {many : Int} {gk : Nat} {key s : List UInt8} {q14 bp : Nat} {A14 : Option Addr} {K c14 : Nat} {hs : List Hop} {W W' : World}
  (h : HG w1 M q r many gk key s q14 bp A14 K c14 hs W) (hb : Below M W W') : HG w1 M q r many gk key s q14 bp A14 K c14 hs W' where
 size := Nat.le_trans h.size hb.size
 k5 := h.k5.upto hb h.hq
 k6 := h.k6.upto hb h.hr
 k3 := h.k3.upto hb (by have := h.hk; omega)
 k1 := h.k1.upto hb (by have := h.hk; omega)
 k2 := h.k2.upto hb h.hk
 k14 := h.k14.upto hb h.h14
 own14 := h.own14.keep fun b _ e => hb.block b (h.hown b e)
 lat := h.lat.trans (hb.mono h.h1)
 hq := h.hq
 hr := h.hr
 hk := h.hk
 h14 := h.h14
 hown := h.hown
 h1 := h.h1
namespace Rt
theorem wrap_ok {l : List Hop} {S : List UInt8} (h : Rt.wrap l = (S, 0)) : 1 <= l.length /\ S.length <= 512 := by
 unfold Rt.wrap at h
 split at h
 ·next h1 =>
  simp only [Bool.and_eq_true, decide_eq_true_eq] at h1
  split at h
  ·simp at h
  ·next h2 =>
   injection h with h3 _
   subst h3
   exact ⟨h1.2.1, by omega⟩
 ·simp at h
def bent (s : List UInt8) (at_ : Int) (by8 : UInt8) : List UInt8 := if 0 <= at_ /\ at_ < s.length then s.set at_.toNat (s.getD at_.toNat 0 + by8) else s
theorem bent_len (s : List UInt8) (at_ : Int) (by8 : UInt8) : (bent s at_ by8).length = s.length := by
 unfold bent
 split <;> simp
end Rt
theorem idxHop0 {b n c : Nat} (W : World) (h : 0 < n) : (Instr.indexAt 22 (.slice (some ⟨b, 0, none⟩) n c) (.int .i64 0)).run Tryz.prog W = .ok (.pointer (some ⟨b, 0, none⟩)) W := by
 have e := idxHop (b := b) (o := 0) (c := c) (i := 0) W h
 simpa using e
theorem storeHops {b o : Nat} {v : Value} {A : Option Addr} {n c : Nat} {W : World} (hc : W.cell? ⟨b, o, none⟩ = some v) (hf : W.frozen? ⟨b, o, none⟩ = false) : (Instr.storeAt 22 (.pointer (some ⟨b, o, none⟩)) (.slice A n c)).run Tryz.prog W = .ok () (W.setCell ⟨b, o, none⟩ (.slice A n c)) := by
 go_simp
def Pr.hopsIt (B : Nat) (key s : List UInt8) : Pr := ⟨fun v W => ∃ gk, v = .func (.func 71) #[] #[.pointer (some ⟨gk + 1, 0, none⟩), .pointer (some ⟨gk + 1 + 1, 0, none⟩), .pointer (some ⟨gk, 0, none⟩)] /\ B <= gk /\
  Row W gk 59 #[.func (.func 20) #[] #[]] /\ Row W (gk + 1) 25 (hC key) /\ Row W (gk + 1 + 1) 9 #[.string ⟨s.toArray⟩],
 fun _ _ _ ⟨g, e, h0, h1, h2, h3⟩ hL => ⟨g, e, h0, h1.later hL, h2.later hL, h3.later hL⟩⟩
theorem hopsIt_any (key s : List UInt8) (hk : key.length = 32) (B : Nat) (w : World) (hB : B <= w.heap.size) : Calls Tryz.prog 21 #[.func (.func 20) #[] #[], .agg (hC key), .string ⟨s.toArray⟩] w fun e w' => ∃ v, e = .returned v /\ Later w w' /\ (Pr.hopsIt B key s).R v w' :=
 (hops_any 20 key hk ⟨s.toArray⟩ w).mono fun e w' ⟨he, hw⟩ => by
  subst hw
  refine ⟨_, he, (((Later.refl w).alloc _).alloc _).alloc _, w.heap.size, rfl, hB, ((Row.new w _ _).alloc _).alloc _, ?_, ?_⟩
  ·have := (Row.new (w.alloc (.cells #[.func (.func 20) #[] #[]] 59)) 25 (hC key)).alloc (.cells #[.string ⟨s.toArray⟩] 9)
   simpa only [World.size_alloc] using this
  ·have := Row.new ((w.alloc (.cells #[.func (.func 20) #[] #[]] 59)).alloc (.cells (hC key) 25)) 9 #[.string ⟨s.toArray⟩]
   simpa only [World.size_alloc] using this
theorem leaveX0 {q : Nat} {w W : World} (hb : Below w.heap.size w W) (k6 : Row W q 4 #[.bool false]) (hq : w.heap.size <= q) :
  (W.setCell ⟨q, 0, none⟩ (.bool true)).cell? ⟨q, 0, none⟩ = some (.bool true) /\ Below w.heap.size w (W.setCell ⟨q, 0, none⟩ (.bool true)) :=
 ⟨((k6.set 0 (.bool true)).cell 0).trans rfl, hb.setCell (p := ⟨q, 0, none⟩) hq _⟩
section
variable {P : Program} {W : World}
theorem geqI {t : TypeId} {k : IntKind} {i j : Int} (h : i < j) : (binOp .geq t (.int k i) (.int k j)).run P W = .ok (.bool false) W := by
 have h1 : decide (j <= i) = false := decide_eq_false (by omega)
 go_simp
theorem neqI_me (t : TypeId) (k : IntKind) (i : Int) : (binOp .neq t (.int k i) (.int k i)).run P W = .ok (.bool false) W := by
 have h1 : decide (i = i) = true := decide_eq_true rfl
 go_simp
end
theorem eqlSeqNilH {W : World} (fn : Fn) (a b : Array Value) : (binOp .eql 62 (.func fn a b) .nilFunc).run Tryz.prog W = .ok (.bool false) W := by
 first | kernel_rfl | rfl
theorem leaveX2 {q D D' : Nat} {w X W : World} (hK : X.heap[D]? = some (.deferred (some []))) (hK' : X.heap[D']? = some (.deferred (some []))) (hb : Below w.heap.size w X) (k6 : Row W q 4 #[.bool false]) (hL : Later X W) (hqD : q < D) (hqD' : q < D') (hq : w.heap.size <= q) :
  (W.setCell ⟨q, 0, none⟩ (.bool true)).heap[D]? = some (.deferred (some [])) /\ (W.setCell ⟨q, 0, none⟩ (.bool true)).heap[D']? = some (.deferred (some [])) /\
   (((W.setCell ⟨q, 0, none⟩ (.bool true)).putObj D (.deferred none)).putObj D' (.deferred none)).cell? ⟨q, 0, none⟩ = some (.bool true) /\
   Below w.heap.size w (((W.setCell ⟨q, 0, none⟩ (.bool true)).putObj D (.deferred none)).putObj D' (.deferred none)) := by
 have hs := hb.size
 have hs2 := hL.size
 have hB : Below w.heap.size w (W.setCell ⟨q, 0, none⟩ (.bool true)) := (hb.trans (hL.mono hs)).setCell (p := ⟨q, 0, none⟩) hq _
 have key : ∀ E, q < E -> X.heap[E]? = some (.deferred (some [])) -> (W.setCell ⟨q, 0, none⟩ (.bool true)).heap[E]? = some (.deferred (some [])) := fun E hE hKE =>
  (Below.heap_setCell W ⟨q, 0, none⟩ _ E (by show E ≠ q; omega)).trans ((Below.block hL E (Array.getElem?_eq_some_iff.1 hKE).1).trans hKE)
 have hB2 := hB.trans (below_put w.heap.size (W.setCell ⟨q, 0, none⟩ (.bool true)) D (.deferred none) (by omega) hB.size)
 refine ⟨key D hqD hK, key D' hqD' hK', ?_, hB2.trans (below_put _ _ _ _ (by omega) hB2.size)⟩
 refine (World.cell?_of_block (w := (W.setCell ⟨q, 0, none⟩ (.bool true)).putObj D (.deferred none)) (a := ⟨q, 0, none⟩) (World.putObj_heap_other (by show q ≠ D'; omega))).trans ?_
 exact (World.cell?_of_block (w := W.setCell ⟨q, 0, none⟩ (.bool true)) (a := ⟨q, 0, none⟩) (World.putObj_heap_other (by show q ≠ D; omega))).trans (((k6.set 0 (.bool true)).cell 0).trans rfl)
theorem leaveM2 {F : Fence} {n : Nat} {P : Program} {fn : Func} {R : Ending -> World -> Prop} {T : Array Value} {D D' : Nat} {w : World} {v : Value} (hne : D' ≠ D) (hD : w.heap[D]? = some (.deferred (some []))) (hD' : w.heap[D']? = some (.deferred (some [])))
  (h : (results fn T).run P ((w.putObj D (.deferred none)).putObj D' (.deferred none)) = .ok v ((w.putObj D (.deferred none)).putObj D' (.deferred none))) (hR : R (.returned v) ((w.putObj D (.deferred none)).putObj D' (.deferred none))) :
  bodyPostM F n P fn R .ret { tmps := T, defers := [{ target := .collected D, args := #[] }, { target := .collected D', args := #[] }] } w :=
 ⟨by simp, .inl ⟨_, _, rfl, run_takeDeferred hD, by simp, .inl ⟨_, _, rfl, run_takeDeferred ((World.putObj_heap_other hne).trans hD'), v, h, hR⟩⟩⟩
end Go.Proofs.YtloiaaolnfimgaaGreat
namespace Go.Proofs.YtloiaaolnfimgaaGreat
open Go.RowKit Rt
attribute [local go_sem] Oper.semAt_some
theorem routeGoes_main (A : Option Addr) (n c : Nat) (l : List Hop) (many at_ : Int) (by8 : UInt8) (w : World) (hi : InHops w A n c l) (hn10 : n <= 10) (hmany : -9223372036854775808 <= many /\ many <= 9223372036854775807) (hat : -9223372036854775808 <= at_ /\ at_ <= 9223372036854775807) :
  Calls Tryz.prog 7 #[.slice A n c, .int .i64 many, .int .i64 at_, .int .u8 (by8.toNat : Int)] w fun e w' => e = .returned (.bool true) /\ Below w.heap.size w w' := by
 refine Calls.post fun Φ HΦ => ?_
 obtain ⟨hn, hnc, hcm, hl, hA⟩ := hi
 have k5 := (Row.new w 3 #[.int .i64 many]).alloc (.cells #[.bool false] 4)
 have k6 := Row.new (w.alloc (.cells #[.int .i64 many] 3)) 4 #[.bool false]
 have hL1 := ((Later.refl w).alloc (.cells #[.int .i64 many] 3)).alloc (.cells #[.bool false] 4)
 simp only [World.size_alloc] at k6
 have HN := Lib.hid hn
 have HL := Lib.hid hl
 clear hn hl
 refine (callsIn_wide (n := 12)).1 ?_
 refine callsIn_of_wp_marks Tryz.func7 rfl trivial ?_ rfl
 simp only [Tryz.ntmps7, List.size_toArray, List.length_cons, List.length_nil, Nat.reduceAdd, Nat.reduceSub, Array.replicate_succ, Array.replicate_zero, List.push_toArray, List.append_toArray, List.nil_append, List.cons_append]
 refine wpIn_wide.2 ?_
 have d1 : decide ((n : Int) > 10) = false := decide_eq_false (by omega)
 have d1' : decide (10 < n) = false := decide_eq_false (by omega)
 go_upto_region 1 with fail
 obtain ⟨q, hq⟩ : ∃ q, q = w.heap.size := ⟨_, rfl⟩
 rw [<- hq] at k5 k6 ⊢
 obtain ⟨r, hrr⟩ : ∃ r, r = q + 1 := ⟨_, rfl⟩
 rw [<- hrr] at k6 ⊢
 have HRR := Lib.hid hrr
 have HQ := Lib.hid hq
 clear hq hrr
 generalize (w.alloc (.cells #[.int .i64 many] 3)).alloc (.cells #[.bool false] 4) = w1 at *
 have own0 : OwnG 27 66 (w1.alloc (.cells #[] 27)) w1.heap.size (.slice (some ⟨w1.heap.size, 0, none⟩) 0 0) [] := OwnG.row (Row.new w1 27 #[]) (by simp) rfl (Nat.le_refl _) (Nat.zero_le _)
 have L1 : Later w1 (w1.alloc (.cells #[] 27)) := below_new w1 _
 have hA1 := (hA.later hL1).later L1
 have hln : (l.map hopL).length = n := by rw [List.length_map, HN.out]
 have hle : ([] : List (List Value)).length + n <= 1000000000 := by simp; omega
 have hsz1 := Later.size L1
 go_upto_region 4 with (first
  | (guard_target =~ wpList _ _ _ (_ :: _) _ _; refine wpList_buildSl rfl 22 0 _ rfl #[] rfl (buildP0 _) ?_; simp only [Act.put, List.setIfInBounds_toArray, List.set_cons_zero, List.set_cons_succ])
  | (guard_target =~ wpList _ _ _ (_ :: _) _ _; refine wpList_append_ga Tryz.underlying22 infoHopG (hopC_size noHop_wf) (by decide) (by decide) rfl (.tmp 30) (.tmp 31) rfl w1.heap.size _ _ rfl own0 A n c (l.map hopL) (fun u hu => by obtain ⟨e, he, rfl⟩ := List.mem_map.1 hu; exact hopL_ok (HL.out _ he)) rfl hln hA1 hle hsz1 fun v2 w2 own2 g2 _ => ?_; have L2 : Later w1 w2 := Below.grown L1 g2 (Later.size L1) (fun j e => (own0.at_ j e).1); rw [List.nil_append] at own2; obtain ⟨M, cM, rfl, hcM, hcMm, hrM⟩ := own2.slice; rw [hln] at own2 hcM ⊢)
  | fail)
 clear own0 L1 hA1 hle hsz1 g2 hrM
 go_wp2_with fail
 go_loopw [10] (fun t wr => ∃ k : Nat, 1 <= k /\ (k <= n \/ k = 1) /\ t = .int .i64 (k : Int) /\ OwnG 27 66 wr w1.heap.size (.slice M n cM) ((keyed l k).map hopL) /\ Later w1 wr) (fun t _ => 11 - (intOf t).toNat)
 case atStart => exact ⟨1, by omega, .inr rfl, rfl, by rw [keyed_one]; exact own2, L2⟩
 case round =>
  obtain ⟨k, hk1, hkn, rfl, own, hLr⟩ := hrel
  clear own2 L2
  by_cases hlt : k < n
  ·have hd : decide ((k : Int) < (n : Int)) = true := decide_eq_true (by omega)
   have hd' : decide (k < n) = true := decide_eq_true hlt
   have hkl : k < l.length := by rw [HN.out]; exact hlt
   obtain ⟨g, rfl⟩ := own.addr (by omega)
   have hmw := keyed_wf HL.out k
   obtain ⟨b, o, e, hcell⟩ := own.recs.at_ (k := k - 1) (by rw [List.length_map, keyed_len]; omega)
   injection e with e
   injection e with e1 e2
   subst e1 e2
   rw [List.getElem_map] at hcell
   have hpw := hmw _ (List.getElem_mem (by rw [keyed_len]; omega : k - 1 < (keyed l k).length))
   have hnx := keyed_next l k hk1 hkl
   obtain ⟨hp, hhp⟩ : ∃ x, (keyed l k)[k - 1]'(by rw [keyed_len]; omega) = x := ⟨_, rfl⟩
   rw [hhp] at hcell hpw hnx
   have hld := loadNextM hpw hcell
   have hwr : IntKind.i64.wrap ((k : Int) - 1) = ((k - 1 : Nat) : Int) := by rw [IntWalk.i64_in _ (by omega)]; omega
   have hi1 := fun W => idxHop (b := g) (o := 0) (n := n) (c := cM) (i := k - 1) W (by omega)
   have hi2 := fun W => idxHop (b := g) (o := 0) (n := n) (c := cM) (i := k) W hlt
   have HNX := Lib.hid hnx
   clear hhp hnx hcell
   go_upto_region 6 with (first
    | (guard_target =~ wpList _ _ _ (_ :: _) _ _; refine wpList_idx rfl 22 (.tmp 41) (.tmp 43) rfl (.slice (some ⟨g, 0, none⟩) n cM) (.int .i64 ((k - 1 : Nat) : Int)) rfl rfl (hi1 _) ?_; simp only [Act.put, List.setIfInBounds_toArray, List.set_cons_zero, List.set_cons_succ])
    | (guard_target =~ wpList _ _ _ (_ :: _) _ _; refine wpList_field rfl 27 (.tmp 44) 1 rfl (.pointer (some ⟨g, 0 + (k - 1) * 66, none⟩)) rfl fHop1 ?_; simp only [Act.put, List.setIfInBounds_toArray, List.set_cons_zero, List.set_cons_succ])
    | (guard_target =~ wpList _ _ _ (_ :: _) _ _; refine wpList_load rfl 25 (.tmp 45) rfl (.pointer (some ⟨g, 0 + (k - 1) * 66 + 32, none⟩)) rfl hld ?_; simp only [Act.put, List.setIfInBounds_toArray, List.set_cons_zero, List.set_cons_succ])
    | (go_at_call 20; refine (second_any _ hpw.2 _).mono ?_; rintro e w5 ⟨rfl, L5⟩; obtain ⟨w6, hst, own6, g6⟩ := OwnG.setKey hmw (own.later L5) k (by rw [keyed_len]; exact hkl) (second hp.next) (second_len hpw.2))
    | (guard_target =~ wpList _ _ _ (_ :: _) _ _; refine wpList_idx rfl 22 (.tmp 39) (.tmp 40) rfl (.slice (some ⟨g, 0, none⟩) n cM) (.int .i64 (k : Int)) rfl rfl (hi2 _) ?_; simp only [Act.put, List.setIfInBounds_toArray, List.set_cons_zero, List.set_cons_succ])
    | (guard_target =~ wpList _ _ _ (_ :: _) _ _; refine wpList_field rfl 27 (.tmp 48) 0 rfl (.pointer (some ⟨g, 0 + k * 66, none⟩)) rfl fHop0 ?_; simp only [Act.put, List.setIfInBounds_toArray, List.set_cons_zero, List.set_cons_succ])
    | (guard_target =~ wpList _ _ _ (_ :: _) _ _; refine wpList_store rfl 25 (.tmp 49) (.tmp 47) rfl (.pointer (some ⟨g, 0 + k * 66, none⟩)) (.agg (hC (second hp.next))) rfl rfl hst ?_; simp only [Act.put, List.setIfInBounds_toArray, List.set_cons_zero, List.set_cons_succ])
    | fail)
   clear hwr
   go_wp2_with fail
   go_roundw
   case rel =>
    have hL6 : Later w1 w6 := Below.grown (hLr.step L5) g6 (Later.size (hLr.step L5)) (fun j e => by cases e; exact (own.at_ g rfl).1)
    refine ⟨k + 1, by omega, by omega, by go_num, ?_, hL6⟩
    rw [HNX.out]
    exact own6
   case measure => simp [intOf]; omega
  ·have hd : decide ((k : Int) < (n : Int)) = false := decide_eq_false (by omega)
   have hd' : decide (k < n) = false := decide_eq_false hlt
   have hmw := keyed_wf HL.out k
   have hml := keyed_len l k
   rw [HN.out] at hml
   obtain ⟨ml, hmle⟩ : ∃ x, keyed l k = x := ⟨_, rfl⟩
   rw [hmle] at own hmw hml
   have hrf := refWrap_any ml M n cM wr ⟨hml, hcM, hcMm, hmw, own.recs⟩ hn10
   obtain ⟨p0, hp0⟩ : ∃ p, Rt.wrap ml = p := ⟨_, rfl⟩
   obtain ⟨S, er⟩ := p0
   rw [hp0] at hrf
   simp only at hrf
   have HP0 := Lib.hid hp0
   clear hp0 hmle
   go_upto_region 9 with (first
    | (go_at_call 10; refine hrf.mono ?_; clear hrf; rintro e w6 ⟨rfl, L6⟩)
    | fail)
   by_cases her : er = 0
   case neg =>
    have e1 : (er == 0) = false := beq_eq_false_iff_ne.2 her
    have e2 : (er != 0) = true := by simp [her]
    have e3 : decide (er = 0) = false := decide_eq_false her
    have k66 := (k6.later hLr).later (show Later wr w6 from L6)
    have L16 := hL1.step (hLr.step (show Later wr w6 from L6))
    clear hd hd' own hA k5 k6 d1 d1'
    go_wp2_with (first
     | (go_at_call 8; refine (works_yes _).mono ?_; rintro e w7 ⟨rfl, L7⟩; have k67 := k66.later (show Later w6 w7 from L7); have c6 : w7.cell? ⟨r, 0, none⟩ = some (.bool false) := (k67.cell 0).trans rfl; have f6 : w7.frozen? ⟨r, 0, none⟩ = false := k67.frozen 0)
     | fail)
    have hfin := leaveX0 (show Below w.heap.size w w7 from L16.step L7) k67 (by have := HQ.out; have := HRR.out; omega)
    exact retM (by simp [results, Tryz.results7, go_sem, hfin.1]) (HΦ.out _ _ ⟨rfl, hfin.2⟩)
   case pos =>
    subst her
    have hwo := wrap_ok HP0.out
    have hS := hwo.2
    have hn1 : 1 <= n := by rw [<- hml]; exact hwo.1
    obtain ⟨gM, rfl⟩ := own.addr (by omega)
    have L16 := hLr.step (show Later wr w6 from L6)
    have own6 := own.later (show Later wr w6 from L6)
    have k56 := k5.later L16
    have k66 := k6.later L16
    obtain ⟨w7, cap, hcv, own7, L7⟩ := conv_ownq w6 S (by omega)
    have hne0 : ∀ X', (binOp .neq 3 (.int .i64 0) (.int .i64 0)).run Tryz.prog X' = .ok (.bool false) X' := fun X' => neqI_me _ _ _
    have HWO := Lib.hid hwo
    clear hd hd' own hA k5 k6 d1 d1' hwo
    go_upto_region 12 with (first
     | (guard_target =~ wpList _ _ _ (_ :: _) _ _; refine wpList_conv rfl 9 60 (.tmp 58) rfl (.string ⟨S.toArray⟩) rfl hcv ?_; simp only [Act.put, List.setIfInBounds_toArray, List.set_cons_zero, List.set_cons_succ])
     | fail)
    obtain ⟨gB, hgB⟩ : ∃ g, g = w6.heap.size := ⟨_, rfl⟩
    rw [<- hgB] at own7 ⊢
    obtain ⟨N, hN⟩ : ∃ N, S.length = N := ⟨_, rfl⟩
    rw [hN] at own7 hS ⊢
    have HGB := Lib.hid hgB
    have HNS := Lib.hid hN
    clear hcv hgB hN
    refine name_frame fun T0 hT0 => ?_
    rename_i K1 hK1 K0 hK0
    have hrest : ∀ (u60 u61 u62 u63 u64 u65 u66 u67 u68 u69 u70 u71 u72 u73 u74 : Value) (X : World), OwnQ 5 X gB (.slice (some ⟨gB, 0, none⟩) N cap) (bent S at_ by8) -> Below gB w7 X -> K1 { tmps := (((((((((((((((T0).setIfInBounds 60 u60).setIfInBounds 61 u61).setIfInBounds 62 u62).setIfInBounds 63 u63).setIfInBounds 64 u64).setIfInBounds 65 u65).setIfInBounds 66 u66).setIfInBounds 67 u67).setIfInBounds 68 u68).setIfInBounds 69 u69).setIfInBounds 70 u70).setIfInBounds 71 u71).setIfInBounds 72 u72).setIfInBounds 73 u73).setIfInBounds 74 u74, defers := [] } X := by
     intro u60 u61 u62 u63 u64 u65 u66 u67 u68 u69 u70 u71 u72 u73 u74 X ownB hbX
     refine hK1 _ _ ?_
     rw [hT0]
     simp only [List.setIfInBounds_toArray, List.set_cons_succ, List.set_cons_zero]
     clear hT0 hK1 hK0
     obtain ⟨BL, hBL⟩ : ∃ x, bent S at_ by8 = x := ⟨_, rfl⟩
     rw [hBL] at ownB
     have hbl : BL.length = N := by rw [<- hBL, bent_len]; exact HNS.out
     obtain ⟨gB', cB', eB, hcB, hcBm, _, rdB⟩ := ownB.slice
     injection eB with eB1 eB2 eB3
     clear eB2
     injection eB1 with eB1
     injection eB1 with eB1 eB4 eB5
     clear eB4 eB5
     subst eB1 eB3
     have hg7 : gB <= w7.heap.size := by have := HGB.out; have := Later.size L7; omega
     have lat7 : Later w1 w7 := L16.step L7
     have own6' := own6.later L7
     have hw67 : w6.heap.size = gB := HGB.out.symm
     have ownM : OwnG 27 66 X w1.heap.size (.slice (some ⟨gM, 0, none⟩) n cM) (ml.map hopL) := own6'.keep fun b _ e => hbX.block b (by have := (own6.at_ b e).2; omega)
     have h1B : w1.heap.size <= gB := by have := Later.size L16; omega
     have hLX : Later w1 X := lat7.trans (hbX.mono h1B)
     have k5X := (k56.later L7).upto hbX (by have := k56.lt; omega)
     have k6X := (k66.later L7).upto hbX (by have := k66.lt; omega)
     obtain ⟨m0, hm0⟩ : ∃ m, ml[0]'(by omega) = m := ⟨_, rfl⟩
     have hm0w : m0.wf := hm0 ▸ hmw _ (List.getElem_mem (by omega))
     have hm0r : X.rangeAt gM 0 (hopL m0) := by
      obtain ⟨b, o, e, hcell⟩ := ownM.recs.at_ (k := 0) (by rw [List.length_map]; omega)
      injection e with e
      injection e with e1 e2
      subst e1 e2
      rw [List.getElem_map, hm0] at hcell
      simpa using hcell
     have hkM : X.rangeAt gM 0 (hC m0.key).toList := fun j v hv => hm0r j v (by
      rw [hopL_eq, List.append_assoc, List.getElem?_append_left (List.getElem?_eq_some_iff.1 hv).1]
      exact hv)
     have HXL := Lib.hid hLX
     have hLX1 : Later X (X.alloc (.cells #[.slice none 0 0] 22)) := below_new X _
     have r14 := Row.new X 22 #[.slice none 0 0]
     clear ownB own6 own6' own7 lat7 hLX hbX k56 k66 hm0r hBL
     go_upto_region 15 with fail
     obtain ⟨q14, hq14⟩ : ∃ q, q = X.heap.size := ⟨_, rfl⟩
     rw [<- hq14] at r14 ⊢
     have HQ14 := Lib.hid hq14
     clear hq14
     generalize X.alloc (.cells #[.slice none 0 0] 22) = X1 at *
     refine (wpIn_wide (n := 12)).1 ?_
     refine wpIn_region_put wide_wide [Pr.eq (.slice (some ⟨gM, 0, none⟩) n cM), Pr.eq (.pointer (some ⟨gM, 0, none⟩)), Pr.eq (.pointer (some ⟨gM, 0, none⟩)), Pr.eq (.agg (hC m0.key)), Pr.eq (.slice (some ⟨gB, 0, none⟩) N cap), Pr.eq (.string ⟨BL.toArray⟩), Pr.newT X1.heap.size 25 is32, Pr.any] 6 7 25 is32 (fun cs X => cs = hC m0.key) (fun cs X X' h _ => h) rfl rfl ⟨putOk_eq, putOk_eq, putOk_eq, putOk_eq, putOk_eq, putOk_eq, putOk_new, putOk_any, trivial⟩ (by kernel_rfl) (by kernel_rfl) (by kernel_rfl) (by kernel_rfl) (by kernel_rfl) (by kernel_rfl) rfl (by decide) (by kernel_rfl) ⟨?_, ?_, ?_, ?_, ?_, ?_, ?_, ?_, trivial⟩ ?_
     ·exact putStep_val (by decide) fun ac W hL he => stepOk_want rfl (op_move rfl (he.k 9))
     ·exact putStep_val (by decide) fun ac W hL he => stepOk_want rfl (op_idx rfl (he.g 0 75) rfl (idxHop0 W hn1) rfl)
     ·exact putStep_val (by decide) fun ac W hL he => stepOk_want rfl (op_fieldAddr rfl (he.g 1 76) fHop0 rfl)
     ·exact putStep_val (by decide) fun ac W hL he => stepOk_want rfl (op_load rfl (he.g 2 77) (loadHashM hm0w.1 (fun j v hv => Later.cell (hLX1.step hL) (hkM j v hv))) rfl)
     ·exact putStep_val (by decide) fun ac W hL he => stepOk_want rfl (op_move rfl (he.k 13))
     ·exact putStep_val (by decide) fun ac W hL he => stepOk_want rfl (op_convert rfl (he.g 4 79) (run_string_rd _ _ _ _ _ _ _ _ Tryz.underlying60 Tryz.underlying5 Tryz.underlying9 hbl (rdB.later (hLX1.step hL))) (Later.refl _) rfl)
     ·exact putStep_val (by decide) fun ac W hL he => stepOk_want rfl (op_alloc rfl (allocH W) (below_new W _) ⟨W.heap.size, _, rfl, hL.size, (by rfl), Row.new W _ _⟩)
     ·refine putStep_put (.tmp 78) 15 rfl rfl rfl rfl (by kernel_rfl) fun ac W g cs hL he hg hz hr => ?_; have ey := (he.g 3 78); rw [show ac.eval (.tmp 78) = .agg (hC m0.key) from ey]; obtain ⟨W', s1, s2, s3⟩ := run_put_row (P := Tryz.prog) (T := 25) (vs := hC m0.key) hr (by rw [hC_size m0.key (Nat.le_of_eq hm0w.1), hz]) (by rw [hC_size m0.key (Nat.le_of_eq hm0w.1)]; exact infoH) (hC_one m0.key); exact ⟨W', _, s1, s2, hC_size m0.key (Nat.le_of_eq hm0w.1), s3, rfl⟩
     intro xs X2 hL hx hput hk2 hget
     obtain ⟨q15, cs, e15, hq15, kq15, rfl⟩ := hput
     have v5 : xs 5 = .string ⟨BL.toArray⟩ := hx 5 (by decide)
     refine last_assign rfl ((hget 5 80 (by decide) rfl).trans v5) ?_
     simp only [initL, lastL, putL, Nat.reduceAdd, Act.put, List.setIfInBounds_toArray, List.set_cons_succ, List.set_cons_zero]
     rw [e15]
     have hBW : BW X q14 q15 (.slice none 0 0) m0.key [] X2 := ⟨r14.later hL, OwnG.nil _ _ _ _, kq15, hLX1.step hL⟩
     have HQ15 : X.heap.size <= q15 := Nat.le_trans (Later.size hLX1) hq15
     clear hx hk2 hget hL r14 kq15 hLX1 e15 v5 hq15
     go_wp2_with fail
     refine name_frame fun T1 hT1 => ?_
     rename_i K2 hK2
     have hrest2 : ∀ (u16 u17 u18 u19 u20 u81 u82 u83 u84 u85 u86 u87 u88 u89 u90 u91 u92 u93 u94 u95 u96 u97 u98 u99 u100 u101 : Value) (K : Nat) (v14 : Value) (key2 : List UInt8) (Y : World), good m0.key BL K -> (stepK m0.key BL K).2.2 ≠ 0 -> BW X q14 q15 v14 key2 (wantL m0.key BL K) Y -> K2 { tmps := ((((((((((((((((((((((((((T1).setIfInBounds 16 u16).setIfInBounds 17 u17).setIfInBounds 18 u18).setIfInBounds 19 u19).setIfInBounds 20 u20).setIfInBounds 81 u81).setIfInBounds 82 u82).setIfInBounds 83 u83).setIfInBounds 84 u84).setIfInBounds 85 u85).setIfInBounds 86 u86).setIfInBounds 87 u87).setIfInBounds 88 u88).setIfInBounds 89 u89).setIfInBounds 90 u90).setIfInBounds 91 u91).setIfInBounds 92 u92).setIfInBounds 93 u93).setIfInBounds 94 u94).setIfInBounds 95 u95).setIfInBounds 96 u96).setIfInBounds 97 u97).setIfInBounds 98 u98).setIfInBounds 99 u99).setIfInBounds 100 u100).setIfInBounds 101 u101, defers := [] } Y := by
      intro u16 u17 u18 u19 u20 u81 u82 u83 u84 u85 u86 u87 u88 u89 u90 u91 u92 u93 u94 u95 u96 u97 u98 u99 u100 u101 K v14 key2 Y hgK heK hBY
      refine hK2 _ _ ?_
      rw [hT1]
      simp only [List.setIfInBounds_toArray, List.set_cons_succ, List.set_cons_zero]
      clear hT1 hK2 hBW
      obtain ⟨A14, c14, e14, hc14, hcm14, _⟩ := hBY.own.slice
      rw [List.length_map, wantL_len] at e14 hc14
      subst e14
      have hK8 := good_most hgK
      have latY := hBY.lat
      go_upto_region 23 with fail
      refine (wpIn_wide (n := 12)).1 ?_
      refine wpIn_region_vals wide_wide [Pr.eq (.slice (some ⟨gM, 0, none⟩) n cM), Pr.eq (.pointer (some ⟨gM, 0, none⟩)), Pr.eq (.pointer (some ⟨gM, 0, none⟩)), Pr.eq (.agg (hC m0.key)), Pr.eq (.slice (some ⟨gB, 0, none⟩) N cap), Pr.eq (.string ⟨BL.toArray⟩), Pr.hopsIt Y.heap.size m0.key BL, Pr.hopsIt Y.heap.size m0.key BL] (by kernel_rfl) (by kernel_rfl) (by kernel_rfl) (by kernel_rfl) (by kernel_rfl) ⟨?_, ?_, ?_, ?_, ?_, ?_, ?_, ?_, trivial⟩ ?_
      ·exact fun ac W hL he => stepOk_want rfl (op_move rfl (he.k 9))
      ·exact fun ac W hL he => stepOk_want rfl (op_idx rfl (he.g 0 102) rfl (idxHop0 W hn1) rfl)
      ·exact fun ac W hL he => stepOk_want rfl (op_fieldAddr rfl (he.g 1 103) fHop0 rfl)
      ·exact fun ac W hL he => stepOk_want rfl (op_load rfl (he.g 2 104) (loadHashM hm0w.1 (fun j v hv => Later.cell (latY.step hL) (hkM j v hv))) rfl)
      ·exact fun ac W hL he => stepOk_want rfl (op_move rfl (he.k 13))
      ·exact fun ac W hL he => stepOk_want rfl (op_convert rfl (he.g 4 106) (run_string_rd _ _ _ _ _ _ _ _ Tryz.underlying60 Tryz.underlying5 Tryz.underlying9 hbl (rdB.later (latY.step hL))) (Later.refl _) rfl)
      ·intro ac W hL he; refine stepOk_want rfl ?_; have e0 : ac.eval (.tmp 105) = .agg (hC m0.key) := he.g 3 105; have e1 : ac.eval (.tmp 107) = .string ⟨BL.toArray⟩ := he.g 5 107; exact op_callF (vs := #[.func (.func 20) #[] #[], .agg (hC m0.key), .string ⟨BL.toArray⟩]) rfl (by simp only [List.map_toArray, List.map_cons, List.map_nil, e0, e1]; rfl) (enters_of Tryz.func21 (by kernel_rfl) rfl) (hopsIt_any m0.key BL hm0w.1 Y.heap.size W hL.size)
      ·exact fun ac W hL he => stepOk_want rfl (op_assign rfl (he.g 6 108))
      intro zz w13 hL13 hzz
      obtain ⟨gk, e21, hgkB, k3, k1, k2⟩ := hzz 7 (by decide)
      simp only [putL, Nat.reduceAdd, Act.put, List.setIfInBounds_toArray, List.set_cons_succ, List.set_cons_zero]
      rw [e21]
      clear hzz e21
      have hB13 := hBY.later hL13
      have hLY := (HXL.out.step latY).step hL13
      have hs13 := Later.size hL13
      have hq1x := k6X.lt
      have hq5x := k5X.lt
      have hsY := Later.size latY
      have hh14 := hB13.r14.lt
      have tf0 : HG w1 w13.heap.size q r many gk m0.key BL q14 X.heap.size A14 K c14 (wantL m0.key BL K) w13 :=
       {size := Nat.le_refl _
        k5 := (k5X.later latY).later hL13
        k6 := (k6X.later latY).later hL13
        k3 := k3
        k1 := k1
        k2 := k2
        k14 := hB13.r14
        own14 := hB13.own
        lat := hLY
        hq := by omega
        hr := by omega
        hk := k2.lt
        h14 := hh14
        hown := fun k e => (hB13.own.at_ k e).2
        h1 := Later.size hLY }
      obtain ⟨M0, hM0⟩ : ∃ x, x = w13.heap.size := ⟨_, rfl⟩
      rw [<- hM0] at tf0
      have HM0 := Lib.hid hM0
      have HEK := Lib.hid heK
      have HGK := Lib.hid hgK
      clear hB13 hBY hL13 hLY latY k3 k1 k2 hh14 hs13 hq1x hq5x hsY k5X k6X hkM rdB ownM heK hgK hM0 hgkB
      go_wp2_with fail
      have k22 := Row.new w13 3 #[.int .i64 0]
      have hb15 : Below M0 w13 (w13.alloc (.cells #[.int .i64 0] 3)) := (Below.refl _ _).alloc tf0.size _
      have tf := tf0.below hb15
      obtain ⟨q22, hq22⟩ : ∃ x, x = w13.heap.size := ⟨_, rfl⟩
      rw [<- hq22] at k22 ⊢
      have hq22M : M0 <= q22 := by rw [hq22]; exact tf0.size
      clear hq22 hb15 tf0
      generalize w13.alloc (.cells #[.int .i64 0] 3) = w15 at *
      refine wp_loop_rounds 3 ?_
      rw [rounds_succ]
      obtain ⟨m1, hm1⟩ : ∃ m, (if 1 < many then many else 1) = m := ⟨_, rfl⟩
      obtain ⟨Z, hz⟩ : ∃ Z : Nat, (if m1 < (K : Int) then m1 else (K : Int)) = (Z : Int) := ⟨(if m1 < (K : Int) then m1 else (K : Int)).toNat, by split at hm1 <;> split <;> omega⟩
      have hzd : (K = 0 \/ (K : Int) < many) -> Z = K := by intro h; split at hm1 <;> split at hz <;> omega
      have hze : ∀ k, k + 1 <= K -> (k = 0 \/ (k : Int) < many) -> many <= (k : Int) + 1 -> k + 1 = Z := by intro k h1 h2 h3; split at hm1 <;> split at hz <;> omega
      have HZD := Lib.hid hzd
      have HZE := Lib.hid hze
      have HM1 := Lib.hid hm1
      have HZ := Lib.hid hz
      clear hzd hze hm1 hz
      have c22 : w15.cell? ⟨q22, 0, none⟩ = some (.int .i64 0) := (k22.cell 0).trans rfl
      have hnil := fun X => eqlSeqNilH (W := X) (.func 71) #[] #[.pointer (some ⟨gk + 1, 0, none⟩), .pointer (some ⟨gk + 1 + 1, 0, none⟩), .pointer (some ⟨gk, 0, none⟩)]
      have hq22l := k22.lt
      go_wp2_with fail
      have k23 := Row.new w15 3 #[.int .i64 0]
      have hbA : Below M0 w15 (w15.alloc (.cells #[.int .i64 0] 3)) := (Below.refl _ _).alloc tf.size _
      have tfA := tf.below hbA
      have k22A := k22.alloc (.cells #[.int .i64 0] 3)
      have hszA : (w15.alloc (.cells #[.int .i64 0] 3)).heap.size = w15.heap.size + 1 := by simp
      obtain ⟨q23, hq23⟩ : ∃ x, x = w15.heap.size := ⟨_, rfl⟩
      rw [<- hq23] at k23 hszA hq22l ⊢
      generalize w15.alloc (.cells #[.int .i64 0] 3) = WA at *
      have hlt23 := k23.lt
      clear tf k22 hbA hq23 c22 hnil
      have hseq := hops1_seq m0.key BL hm0w.1 gk WA 11 (by omega) (fun b => b = q23 \/ b = WA.heap.size + 1) (by rintro b (h | h) <;> omega) (by have := tfA.hk; refine ⟨?_, ?_, ?_⟩ <;> (rintro (h | h) <;> omega)) tfA.k3 tfA.k1 tfA.k2
      have HS := Lib.hid hseq
      have HSZ := Lib.hid hszA
      clear hseq hszA
      refine name_frame fun T0 hT0 => ?_
      rename_i K0 hK0
      have hrest : ∀ (D : Nat) (X : World), WA.heap.size <= D -> X.heap[D]? = some (.deferred (some [])) -> Row X q23 3 #[.int .i64 (Z : Int)] -> Same (fun k => k < WA.heap.size /\ k ≠ q23) WA X -> K0 { tmps := T0, defers := { target := .collected D, args := #[] } :: [] } X := by
       intro D1 X1 hD1 hKD1 kn hs
       refine hK0 _ _ ?_
       rw [hT0]
       clear hT0 HS hK0
       have hbX : Below M0 WA X1 := Same.below (hs.mono fun k (hk : k < M0) => ⟨by have := tfA.size; omega, by omega⟩)
       have tfX := tfA.below hbX
       have k22X := k22A.same hs ⟨by omega, by omega⟩
       have c22 : X1.cell? ⟨q22, 0, none⟩ = some (.int .i64 0) := (k22X.cell 0).trans rfl
       have c23 : X1.cell? ⟨q23, 0, none⟩ = some (.int .i64 (Z : Int)) := (kn.cell 0).trans rfl
       have c14x : X1.cell? ⟨q14, 0, none⟩ = some (.slice A14 K c14) := (tfX.k14.cell 0).trans rfl
       have c5 : X1.cell? ⟨q, 0, none⟩ = some (.int .i64 many) := (tfX.k5.cell 0).trans rfl
       have hm1 := HM1.out
       have hz := HZ.out
       go_upto_region 39 with fail
       clear hm1 hz
       go_wp2_with fail
       clear c22 c23 c14x c5
       have k22 := Row.new X1 3 #[.int .i64 1]
       have hbB : Below M0 X1 (X1.alloc (.cells #[.int .i64 1] 3)) := (Below.refl _ _).alloc tfX.size _
       have tf := tfX.below hbB
       have hKD1 : (X1.alloc (.cells #[.int .i64 1] 3)).heap[D1]? = some (.deferred (some [])) := (Below.heap_alloc _ _ _ (Array.getElem?_eq_some_iff.1 hKD1).1).trans hKD1
       have hq22X : M0 <= X1.heap.size := tfX.size
       have hqD1 : r < D1 := by have := tfA.hr; have := tfA.size; omega
       clear hs kn k22X tfX hbB hbX k23 k22A tfA hq22M hq22l hD1
       obtain ⟨q22, hq22⟩ : ∃ x, x = X1.heap.size := ⟨_, rfl⟩
       rw [<- hq22] at k22 hq22X ⊢
       have hq22M := hq22X
       clear hq22 hq22X
       generalize X1.alloc (.cells #[.int .i64 1] 3) = w22 at *
       rw [rounds_succ]
       have c22 : w22.cell? ⟨q22, 0, none⟩ = some (.int .i64 1) := (k22.cell 0).trans rfl
       have hnil := fun X => eqlSeqNilH (W := X) (.func 71) #[] #[.pointer (some ⟨gk + 1, 0, none⟩), .pointer (some ⟨gk + 1 + 1, 0, none⟩), .pointer (some ⟨gk, 0, none⟩)]
       have hq22l := k22.lt
       go_wp2_with fail
       have k23 := Row.new w22 3 #[.int .i64 0]
       have hbA : Below M0 w22 (w22.alloc (.cells #[.int .i64 0] 3)) := (Below.refl _ _).alloc tf.size _
       have tfA := tf.below hbA
       have k22A := k22.alloc (.cells #[.int .i64 0] 3)
       have hszA : (w22.alloc (.cells #[.int .i64 0] 3)).heap.size = w22.heap.size + 1 := by simp
       obtain ⟨q23, hq23⟩ : ∃ x, x = w22.heap.size := ⟨_, rfl⟩
       rw [<- hq23] at k23 hszA hq22l ⊢
       have hD1s : D1 < q23 := by rw [hq23]; exact (Array.getElem?_eq_some_iff.1 hKD1).1
       have hKD1A : (w22.alloc (.cells #[.int .i64 0] 3)).heap[D1]? = some (.deferred (some [])) := (Below.heap_alloc _ _ _ (Array.getElem?_eq_some_iff.1 hKD1).1).trans hKD1
       generalize w22.alloc (.cells #[.int .i64 0] 3) = WA at *
       have hlt23 := k23.lt
       clear tf k22 hbA hq23 c22 hnil
       have hseq := hops1_seq m0.key BL hm0w.1 gk WA 11 (by omega) (fun b => b = q23 \/ b = WA.heap.size + 1) (by rintro b (h | h) <;> omega) (by have := tfA.hk; refine ⟨?_, ?_, ?_⟩ <;> (rintro (h | h) <;> omega)) tfA.k3 tfA.k1 tfA.k2
       have HS := Lib.hid hseq
       have HSZ := Lib.hid hszA
       clear hseq hszA
       refine name_frame fun T0 hT0 => ?_
       rename_i K0 hK0
       have hrest : ∀ (D : Nat) (X : World), WA.heap.size <= D -> X.heap[D]? = some (.deferred (some [])) -> Row X q23 3 #[.int .i64 (K : Int)] -> Same (fun k => k < WA.heap.size /\ k ≠ q23) WA X -> K0 { tmps := T0, defers := { target := .collected D, args := #[] } :: [{ target := .collected D1, args := #[] }] } X := by
        intro D0 X0 hD0 hKD0 kn hs
        refine hK0 _ _ ?_
        rw [hT0]
        clear hT0 HS hK0
        have hbX : Below M0 WA X0 := Same.below (hs.mono fun k (hk : k < M0) => ⟨by have := tfA.size; omega, by omega⟩)
        have tfX := tfA.below hbX
        have k22X := k22A.same hs ⟨by omega, by omega⟩
        have c22 : X0.cell? ⟨q22, 0, none⟩ = some (.int .i64 1) := (k22X.cell 0).trans rfl
        have c23 : X0.cell? ⟨q23, 0, none⟩ = some (.int .i64 (K : Int)) := (kn.cell 0).trans rfl
        have c14x : X0.cell? ⟨q14, 0, none⟩ = some (.slice A14 K c14) := (tfX.k14.cell 0).trans rfl
        have c5 : X0.cell? ⟨q, 0, none⟩ = some (.int .i64 many) := (tfX.k5.cell 0).trans rfl
        go_upto_region 39 with fail
        go_wp2_with fail
        clear c22 c23 c14x c5
        have hKD1X : X0.heap[D1]? = some (.deferred (some [])) := (hs.block D1 ⟨by omega, by omega⟩).trans hKD1A
        have k22' := Row.new X0 3 #[.int .i64 2]
        have hbB : Below M0 X0 (X0.alloc (.cells #[.int .i64 2] 3)) := (Below.refl _ _).alloc tfX.size _
        have tfB := tfX.below hbB
        have hLX0 : Later X0 (X0.alloc (.cells #[.int .i64 2] 3)) := (Later.refl X0).alloc _
        have hLwX := tfX.lat
        clear hs kn k22X tfX hbB k23 k22A tfA hKD1A
        have c22 : (X0.alloc (.cells #[.int .i64 2] 3)).cell? ⟨X0.heap.size, 0, none⟩ = some (.int .i64 2) := (k22'.cell 0).trans rfl
        rw [rounds_succ]
        generalize X0.alloc (.cells #[.int .i64 2] 3) = w24 at *
        have k624 := tfB.k6
        have hqM := tfB.hr
        have hwM := tfB.h1
        clear tfB
        go_wp2_with (first
         | (go_at_call 8; refine (works_yes _).mono ?_; rintro e w25 ⟨rfl, hL25⟩; have k625 := k624.later hL25; have c625 : w25.cell? ⟨r, 0, none⟩ = some (.bool false) := (k625.cell 0).trans rfl; have f625 : w25.frozen? ⟨r, 0, none⟩ = false := k625.frozen 0)
         | fail)
        have hwX : Below w.heap.size w X0 := (hL1.step hLwX)
        have hfin := leaveX2 (q := r) hKD0 hKD1X hwX k625 (hLX0.step hL25) (by omega) (by omega) (by have := HQ.out; have := HRR.out; omega)
        exact leaveM2 (by omega) hfin.1 hfin.2.1 (by simp [results, Tryz.results7, go_sem, hfin.2.2.1]) (HΦ.out _ _ ⟨rfl, hfin.2.2.2⟩)
       refine (wpIn_wide (n := 12)).1 ?_
       refine wpIn_range_W (α := Int × Rt.Hop) (Kp := fun _ => KeepB (fun b => b = q23 \/ b = WA.heap.size + 1)) rfl (by omega) (gf := 71) (lb := #[.pointer (some ⟨gk + 1, 0, none⟩), .pointer (some ⟨gk + 1 + 1, 0, none⟩), .pointer (some ⟨gk, 0, none⟩)]) (by rw [hT0]; rfl) trivial (enters_of Tryz.func71 (by kernel_rfl) rfl)
        HS.out (fun r h => h.elim) (fun h k => h.trans k) (fun x W o => KeepB.put W o (.inr rfl)) (Below.refl _ _) (fun _ => rfl)
        (fun pre X => pre.length <= K /\ True /\ Row X q23 3 #[.int .i64 (pre.length : Int)] /\ Same (fun k => k < WA.heap.size /\ k ≠ q23) WA X)
        (fun c pre X => False)
        (fun pre X Y ⟨h1, h2, h3, h4⟩ hs => ⟨h1, h2, h3.same hs ⟨by omega, fun h => h⟩, h4.trans (hs.mono fun k hk => ⟨hk.1, fun h => h⟩)⟩)
        (fun c pre X Y h _ => h)
        ⟨by simp, trivial, k23, Same.refl _ _⟩
        (fun pre x a' X => ∃ gt, a' = { tmps := ((((T0.setIfInBounds 116 (.int .i64 x.1)).setIfInBounds 117 (.agg (hopC x.2))).setIfInBounds 24 (.int .i64 x.1)).setIfInBounds 25 (.pointer (some ⟨gt, 0, none⟩))), defers := [] } /\ (good m0.key BL (pre.length + 1) /\ x = ((pre.length : Int), (stepK m0.key BL pre.length).1)) /\ Row X gt 27 (hopC x.2) /\ WA.heap.size + 2 <= gt)
        (fun pre x a' X o ⟨gt, h1, h2, h3, h4⟩ => ⟨gt, h1, h2, (World.putObj_heap_other (by omega)).trans h3, h4⟩) ?assign ?body ?done ?stop
       case assign =>
        intro l0 pre x X K hXs hi hok hK
        have hTw : x.2.wf := by rw [hok.2]; exact stepK_wf hm0w.1 _
        obtain ⟨w9, hst, k9, hL9⟩ := newHop X hTw
        have HK := Lib.hid hK
        have HI := Lib.hid hi
        have HOK := Lib.hid hok
        clear hK hi hok
        have e89 : ((#[116, 117] : Array Tmp).zip (stE x)).foldl (fun t (p, v) => t.setIfInBounds p v) T0 = (T0.setIfInBounds 116 (.int .i64 x.1)).setIfInBounds 117 (.agg (hopC x.2)) := by simp
        rw [e89, hT0]
        clear e89
        simp only [List.setIfInBounds_toArray, List.set_cons_succ, List.set_cons_zero]
        gi_wp2_with (first
         | (refine wpListIn_allocR rfl 27 rfl (allocHop _) ?_)
         | (refine wpListIn_storeR rfl 27 (.tmp 25) (.tmp 117) rfl (.pointer (some ⟨X.heap.size, 0, none⟩)) (.agg (hopC x.2)) rfl rfl hst ?_)
         | fail)
        obtain ⟨i1, i2, i3, i4⟩ := HI.out
        exact HK.out _ _ (KeepsFrom.of_later hL9) (KeepB.later hL9) ⟨i1, i2, i3.later hL9, i4.trans ((Same.of_below hL9).mono fun k hk => by have := hk.1; have := i4.size; omega)⟩ ⟨X.heap.size, by rw [hT0]; rfl, HOK.out, k9, hXs⟩
       case body =>
        rintro l0 pre x a' X hl hlo hXs ⟨h1, hcond, h3, h4⟩ ⟨gt, rfl, hok, hrt, hgt⟩
        obtain ⟨g1, g2⟩ := hok
        have hplen : (pre ++ [x]).length = pre.length + 1 := by simp
        obtain ⟨kk, hk⟩ : ∃ k, pre.length = k := ⟨_, rfl⟩
        rw [hk] at h1 h3 g1 g2 hplen
        have hki : kk < K := by
         by_cases e : kk = K
         ·exact absurd (g1 K (by omega)) HEK.out
         ·omega
        have hbX : Below M0 WA X := Same.below (h4.mono fun k (hk : k < M0) => ⟨by have := tfA.size; omega, by omega⟩)
        have tfX := tfA.below hbX
        obtain ⟨bi, rfl⟩ := tfX.own14.addr (by omega)
        obtain ⟨b, o, e, hcell⟩ := tfX.own14.recs.at_ (k := kk) (by rw [List.length_map, wantL_len]; exact hki)
        injection e with e
        injection e with e1 e2 e3
        clear e3
        subst e1 e2
        rw [List.getElem_map, wantL_get _ _ _ _ hki] at hcell
        have hTw : x.2.wf := by rw [g2]; exact stepK_wf hm0w.1 _
        obtain ⟨xi, xh⟩ := x
        injection g2 with g2 g3
        subst g2
        simp only at hrt hTw
        rw [<- g3] at hcell
        have k22X := k22A.same h4 ⟨by omega, by omega⟩
        rw [hT0]
        simp only [List.setIfInBounds_toArray, List.set_cons_succ, List.set_cons_zero]
        have HREST := Lib.hid hrest
        have HPL := Lib.hid hplen
        clear hplen g1 g3 hT0 hrest hK0 HS hbX
        have hk9 : (kk : Int) + 1 <= 9223372036854775807 := by omega
        gi_wp2_with fail
        have WR0 := wide_round l0
        refine wpIn_region_vals WR0 [Pr.eq (.int .i64 (kk : Int)), Pr.eq (.slice (some ⟨bi, 0, none⟩) K c14), Pr.eq (.int .i64 (K : Int)), Pr.eq (.bool false), Pr.eq (.bool false), Pr.eq (.int .i64 (kk : Int)), Pr.eq (.int .i64 (kk : Int)), Pr.eq (.bool false), Pr.eq (.bool false), Pr.eq (.bool false), Pr.eq (.agg (hopC xh)), Pr.eq (.slice (some ⟨bi, 0, none⟩) K c14), Pr.eq (.int .i64 (kk : Int)), Pr.eq (.pointer (some ⟨bi, 0 + kk * 66, none⟩)), Pr.eq (.agg (hopC xh)), Pr.eq (.bool false), Pr.eq (.bool false)] (by kernel_rfl) (by kernel_rfl) (by kernel_rfl) (by kernel_rfl) (by kernel_rfl) ⟨?_, ?_, ?_, ?_, ?_, ?_, ?_, ?_, ?_, ?_, ?_, ?_, ?_, ?_, ?_, ?_, ?_, trivial⟩ ?_
        ·exact fun ac W hL he => stepOk_want rfl (op_load rfl (he.k 23) (loadInt ((h3.later hL).cell 0 |>.trans rfl)) rfl)
        ·exact fun ac W hL he => stepOk_want rfl (op_load rfl (he.k 14) (loadHops ((tfX.k14.later hL).cell 0 |>.trans rfl)) rfl)
        ·exact fun ac W hL he => stepOk_want rfl (op_len Tryz.underlying22 rfl (he.g 1 119) rfl)
        ·exact fun ac W hL he => stepOk_want rfl (op_binOp rfl (he.g 0 118) (he.g 2 120) rfl (geqI (by omega)) rfl)
        ·exact fun ac W hL he => stepOk_want rfl (op_move rfl (he.g 3 121))
        ·exact fun ac W hL he => stepOk_yes (j := 4) (t := 122) (b := false) rfl rfl (he.g 4 122) (op_move rfl (he.k 24))
        ·exact fun ac W hL he => stepOk_yes (j := 4) (t := 122) (b := false) rfl rfl (he.g 4 122) (op_load rfl (he.k 23) (loadInt ((h3.later hL).cell 0 |>.trans rfl)) rfl)
        ·exact fun ac W hL he => stepOk_yes (j := 4) (t := 122) (b := false) rfl rfl (he.g 4 122) (op_binOp rfl (he.g 5 123) (he.g 6 124) eqgI (neqI_me _ _ _) rfl)
        ·exact fun ac W hL he => stepOk_want rfl (op_pick (b := false) rfl (he.g 4 122) (he.g 7 125))
        ·exact fun ac W hL he => stepOk_want rfl (op_move rfl (he.g 8 126))
        ·exact fun ac W hL he => stepOk_yes (j := 9) (t := 127) (b := false) rfl rfl (he.g 9 127) (op_load rfl (he.k 25) (loadHopR hTw (hrt.later hL)) rfl)
        ·exact fun ac W hL he => stepOk_yes (j := 9) (t := 127) (b := false) rfl rfl (he.g 9 127) (op_load rfl (he.k 14) (loadHops ((tfX.k14.later hL).cell 0 |>.trans rfl)) rfl)
        ·exact fun ac W hL he => stepOk_yes (j := 9) (t := 127) (b := false) rfl rfl (he.g 9 127) (op_load rfl (he.k 23) (loadInt ((h3.later hL).cell 0 |>.trans rfl)) rfl)
        ·exact fun ac W hL he => stepOk_yes (j := 9) (t := 127) (b := false) rfl rfl (he.g 9 127) (op_idx rfl (he.g 11 129) (he.g 12 130) (idxHop W hki) rfl)
        ·exact fun ac W hL he => stepOk_yes (j := 9) (t := 127) (b := false) rfl rfl (he.g 9 127) (op_load rfl (he.g 13 131) (loadHopM hTw (range_later hcell hL)) rfl)
        ·exact fun ac W hL he => stepOk_yes (j := 9) (t := 127) (b := false) rfl rfl (he.g 9 127) (op_binOp rfl (he.g 10 128) (he.g 14 132) (eqgHop _ _ _ _ _ _) (neqHopMe hTw _) rfl)
        ·exact fun ac W hL he => stepOk_want rfl (op_pick (b := false) rfl (he.g 9 127) (he.g 15 133))
        intro zz Wz hL hzz
        have e134 : zz 16 = .bool false := hzz 16 (by decide)
        have tfz := tfX.below (hL.mono tfX.size)
        have k23z := h3.later hL
        have k22z := k22X.later hL
        have hszX := h4.size
        have hszz := hL.size
        clear hzz tfX h3 k22X hcell hrt
        simp only [putL, Nat.reduceAdd, Act.put, List.setIfInBounds_toArray, List.set_cons_succ, List.set_cons_zero]
        rw [e134]
        clear e134
        have hqM := tfz.hq
        have c23 : Wz.cell? ⟨q23, 0, none⟩ = some (.int .i64 (kk : Int)) := (k23z.cell 0).trans rfl
        have f23 : Wz.frozen? ⟨q23, 0, none⟩ = false := k23z.frozen 0
        have hset := k23z.set 0 (.int .i64 ((kk : Int) + 1))
        have k22s := k22z.far (p := ⟨q23, 0, none⟩) (by show q22 ≠ q23; omega) (.int .i64 ((kk : Int) + 1))
        have k5s := tfz.k5.far (p := ⟨q23, 0, none⟩) (by show q ≠ q23; omega) (.int .i64 ((kk : Int) + 1))
        have c23s : (Wz.setCell ⟨q23, 0, none⟩ (.int .i64 ((kk : Int) + 1))).cell? ⟨q23, 0, none⟩ = some (.int .i64 ((kk : Int) + 1)) := (hset.cell 0).trans rfl
        have c22s : (Wz.setCell ⟨q23, 0, none⟩ (.int .i64 ((kk : Int) + 1))).cell? ⟨q22, 0, none⟩ = some (.int .i64 1) := (k22s.cell 0).trans rfl
        have c5s : (Wz.setCell ⟨q23, 0, none⟩ (.int .i64 ((kk : Int) + 1))).cell? ⟨q, 0, none⟩ = some (.int .i64 many) := (k5s.cell 0).trans rfl
        have hwr1 : IntKind.i64.wrap ((kk : Int) + 1) = (kk : Int) + 1 := IntWalk.i64_in _ (by omega)
        have hkwX : KeepB (fun b => b = q23) X (Wz.setCell ⟨q23, 0, none⟩ (.int .i64 ((kk : Int) + 1))) := (KeepB.later hL).trans (KeepB.setc Wz ⟨q23, 0, none⟩ _ rfl)
        have hkf : KeepsFrom WA.heap.size X (Wz.setCell ⟨q23, 0, none⟩ (.int .i64 ((kk : Int) + 1))) := hkwX.from_ (fun b h => by omega)
        have hkw2 : KeepB (fun b => b = q23 \/ b = WA.heap.size + 1) X (Wz.setCell ⟨q23, 0, none⟩ (.int .i64 ((kk : Int) + 1))) := hkwX.mono (fun b h => .inl h)
        have hsame : Same (fun k => k < WA.heap.size /\ k ≠ q23) WA (Wz.setCell ⟨q23, 0, none⟩ (.int .i64 ((kk : Int) + 1))) := (h4.trans ((Same.of_below hL).mono fun k hk => by have := hk.1; omega)).trans ((Same.set Wz ⟨q23, 0, none⟩ _).mono fun k hk => hk.2)
        clear k22s k5s hkwX h4 hL tfz k23z k22z
        gi_wp2_with fail
        exact ⟨hkf, hkw2, by rw [HPL.out]; exact hki, trivial, by rw [HPL.out]; exact hset, hsame⟩
       case done =>
        rintro D0 ys X hD hS ⟨h1, h2, h3, h4⟩ hK
        have hyK : ys.length = K := by
         by_cases e : ys.length = K
         ·exact e
         ·have hg := HGK.out ys.length (by omega)
          exact absurd hg hS.2
        rw [hyK] at h3
        exact hrest D0 X hD hK h3 h4
       case stop =>
        exact fun _ _ _ _ _ _ h _ => h.elim
      refine (wpIn_wide (n := 12)).1 ?_
      refine wpIn_range_W (α := Int × Rt.Hop) (Kp := fun _ => KeepB (fun b => b = q23 \/ b = WA.heap.size + 1)) rfl (by omega) (gf := 71) (lb := #[.pointer (some ⟨gk + 1, 0, none⟩), .pointer (some ⟨gk + 1 + 1, 0, none⟩), .pointer (some ⟨gk, 0, none⟩)]) (by rw [hT0]; rfl) trivial (enters_of Tryz.func71 (by kernel_rfl) rfl)
       HS.out (fun r h => h.elim) (fun h k => h.trans k) (fun x W o => KeepB.put W o (.inr rfl)) (Below.refl _ _) (fun _ => rfl)
       (fun pre X => pre.length <= K /\ (pre.length = 0 \/ (pre.length : Int) < many) /\ Row X q23 3 #[.int .i64 (pre.length : Int)] /\ Same (fun k => k < WA.heap.size /\ k ≠ q23) WA X)
       (fun c pre X => c = Code.exit 6 /\ pre.length = Z /\ Row X q23 3 #[.int .i64 (pre.length : Int)] /\ Same (fun k => k < WA.heap.size /\ k ≠ q23) WA X)
       (fun pre X Y ⟨h1, h2, h3, h4⟩ hs => ⟨h1, h2, h3.same hs ⟨by omega, fun h => h⟩, h4.trans (hs.mono fun k hk => ⟨hk.1, fun h => h⟩)⟩)
       (fun c pre X Y ⟨h1, h2, h3, h4⟩ hs => ⟨h1, h2, h3.same hs ⟨by omega, fun h => h⟩, h4.trans (hs.mono fun k hk => ⟨hk.1, fun h => h⟩)⟩)
       ⟨by simp, .inl rfl, k23, Same.refl _ _⟩
       (fun pre x a' X => ∃ gt, a' = { tmps := ((((T0.setIfInBounds 116 (.int .i64 x.1)).setIfInBounds 117 (.agg (hopC x.2))).setIfInBounds 24 (.int .i64 x.1)).setIfInBounds 25 (.pointer (some ⟨gt, 0, none⟩))), defers := [] } /\ (good m0.key BL (pre.length + 1) /\ x = ((pre.length : Int), (stepK m0.key BL pre.length).1)) /\ Row X gt 27 (hopC x.2) /\ WA.heap.size + 2 <= gt)
       (fun pre x a' X o ⟨gt, h1, h2, h3, h4⟩ => ⟨gt, h1, h2, (World.putObj_heap_other (by omega)).trans h3, h4⟩) ?assign ?body ?done ?stop
      case assign =>
       intro l0 pre x X K hXs hi hok hK
       have hTw : x.2.wf := by rw [hok.2]; exact stepK_wf hm0w.1 _
       obtain ⟨w9, hst, k9, hL9⟩ := newHop X hTw
       have HK := Lib.hid hK
       have HI := Lib.hid hi
       have HOK := Lib.hid hok
       clear hK hi hok
       have e89 : ((#[116, 117] : Array Tmp).zip (stE x)).foldl (fun t (p, v) => t.setIfInBounds p v) T0 = (T0.setIfInBounds 116 (.int .i64 x.1)).setIfInBounds 117 (.agg (hopC x.2)) := by simp
       rw [e89, hT0]
       clear e89
       simp only [List.setIfInBounds_toArray, List.set_cons_succ, List.set_cons_zero]
       gi_wp2_with (first
        | (refine wpListIn_allocR rfl 27 rfl (allocHop _) ?_)
        | (refine wpListIn_storeR rfl 27 (.tmp 25) (.tmp 117) rfl (.pointer (some ⟨X.heap.size, 0, none⟩)) (.agg (hopC x.2)) rfl rfl hst ?_)
        | fail)
       obtain ⟨i1, i2, i3, i4⟩ := HI.out
       exact HK.out _ _ (KeepsFrom.of_later hL9) (KeepB.later hL9) ⟨i1, i2, i3.later hL9, i4.trans ((Same.of_below hL9).mono fun k hk => by have := hk.1; have := i4.size; omega)⟩ ⟨X.heap.size, by rw [hT0]; rfl, HOK.out, k9, hXs⟩
      case body =>
       rintro l0 pre x a' X hl hlo hXs ⟨h1, hcond, h3, h4⟩ ⟨gt, rfl, hok, hrt, hgt⟩
       obtain ⟨g1, g2⟩ := hok
       have hplen : (pre ++ [x]).length = pre.length + 1 := by simp
       obtain ⟨kk, hk⟩ : ∃ k, pre.length = k := ⟨_, rfl⟩
       rw [hk] at h1 hcond h3 g1 g2 hplen
       have hki : kk < K := by
        by_cases e : kk = K
        ·exact absurd (g1 K (by omega)) HEK.out
        ·omega
       have hbX : Below M0 WA X := Same.below (h4.mono fun k (hk : k < M0) => ⟨by have := tfA.size; omega, by omega⟩)
       have tfX := tfA.below hbX
       obtain ⟨bi, rfl⟩ := tfX.own14.addr (by omega)
       obtain ⟨b, o, e, hcell⟩ := tfX.own14.recs.at_ (k := kk) (by rw [List.length_map, wantL_len]; exact hki)
       injection e with e
       injection e with e1 e2 e3
       clear e3
       subst e1 e2
       rw [List.getElem_map, wantL_get _ _ _ _ hki] at hcell
       have hTw : x.2.wf := by rw [g2]; exact stepK_wf hm0w.1 _
       obtain ⟨xi, xh⟩ := x
       injection g2 with g2 g3
       subst g2
       simp only at hrt hTw
       rw [<- g3] at hcell
       have k22X := k22A.same h4 ⟨by omega, by omega⟩
       rw [hT0]
       simp only [List.setIfInBounds_toArray, List.set_cons_succ, List.set_cons_zero]
       have HREST := Lib.hid hrest
       have HPL := Lib.hid hplen
       clear hplen g1 g3 hT0 hrest hK0 HS hbX
       have hk9 : (kk : Int) + 1 <= 9223372036854775807 := by omega
       gi_wp2_with fail
       have WR0 := wide_round l0
       refine wpIn_region_vals WR0 [Pr.eq (.int .i64 (kk : Int)), Pr.eq (.slice (some ⟨bi, 0, none⟩) K c14), Pr.eq (.int .i64 (K : Int)), Pr.eq (.bool false), Pr.eq (.bool false), Pr.eq (.int .i64 (kk : Int)), Pr.eq (.int .i64 (kk : Int)), Pr.eq (.bool false), Pr.eq (.bool false), Pr.eq (.bool false), Pr.eq (.agg (hopC xh)), Pr.eq (.slice (some ⟨bi, 0, none⟩) K c14), Pr.eq (.int .i64 (kk : Int)), Pr.eq (.pointer (some ⟨bi, 0 + kk * 66, none⟩)), Pr.eq (.agg (hopC xh)), Pr.eq (.bool false), Pr.eq (.bool false)] (by kernel_rfl) (by kernel_rfl) (by kernel_rfl) (by kernel_rfl) (by kernel_rfl) ⟨?_, ?_, ?_, ?_, ?_, ?_, ?_, ?_, ?_, ?_, ?_, ?_, ?_, ?_, ?_, ?_, ?_, trivial⟩ ?_
       ·exact fun ac W hL he => stepOk_want rfl (op_load rfl (he.k 23) (loadInt ((h3.later hL).cell 0 |>.trans rfl)) rfl)
       ·exact fun ac W hL he => stepOk_want rfl (op_load rfl (he.k 14) (loadHops ((tfX.k14.later hL).cell 0 |>.trans rfl)) rfl)
       ·exact fun ac W hL he => stepOk_want rfl (op_len Tryz.underlying22 rfl (he.g 1 119) rfl)
       ·exact fun ac W hL he => stepOk_want rfl (op_binOp rfl (he.g 0 118) (he.g 2 120) rfl (geqI (by omega)) rfl)
       ·exact fun ac W hL he => stepOk_want rfl (op_move rfl (he.g 3 121))
       ·exact fun ac W hL he => stepOk_yes (j := 4) (t := 122) (b := false) rfl rfl (he.g 4 122) (op_move rfl (he.k 24))
       ·exact fun ac W hL he => stepOk_yes (j := 4) (t := 122) (b := false) rfl rfl (he.g 4 122) (op_load rfl (he.k 23) (loadInt ((h3.later hL).cell 0 |>.trans rfl)) rfl)
       ·exact fun ac W hL he => stepOk_yes (j := 4) (t := 122) (b := false) rfl rfl (he.g 4 122) (op_binOp rfl (he.g 5 123) (he.g 6 124) eqgI (neqI_me _ _ _) rfl)
       ·exact fun ac W hL he => stepOk_want rfl (op_pick (b := false) rfl (he.g 4 122) (he.g 7 125))
       ·exact fun ac W hL he => stepOk_want rfl (op_move rfl (he.g 8 126))
       ·exact fun ac W hL he => stepOk_yes (j := 9) (t := 127) (b := false) rfl rfl (he.g 9 127) (op_load rfl (he.k 25) (loadHopR hTw (hrt.later hL)) rfl)
       ·exact fun ac W hL he => stepOk_yes (j := 9) (t := 127) (b := false) rfl rfl (he.g 9 127) (op_load rfl (he.k 14) (loadHops ((tfX.k14.later hL).cell 0 |>.trans rfl)) rfl)
       ·exact fun ac W hL he => stepOk_yes (j := 9) (t := 127) (b := false) rfl rfl (he.g 9 127) (op_load rfl (he.k 23) (loadInt ((h3.later hL).cell 0 |>.trans rfl)) rfl)
       ·exact fun ac W hL he => stepOk_yes (j := 9) (t := 127) (b := false) rfl rfl (he.g 9 127) (op_idx rfl (he.g 11 129) (he.g 12 130) (idxHop W hki) rfl)
       ·exact fun ac W hL he => stepOk_yes (j := 9) (t := 127) (b := false) rfl rfl (he.g 9 127) (op_load rfl (he.g 13 131) (loadHopM hTw (range_later hcell hL)) rfl)
       ·exact fun ac W hL he => stepOk_yes (j := 9) (t := 127) (b := false) rfl rfl (he.g 9 127) (op_binOp rfl (he.g 10 128) (he.g 14 132) (eqgHop _ _ _ _ _ _) (neqHopMe hTw _) rfl)
       ·exact fun ac W hL he => stepOk_want rfl (op_pick (b := false) rfl (he.g 9 127) (he.g 15 133))
       intro zz Wz hL hzz
       have e134 : zz 16 = .bool false := hzz 16 (by decide)
       have tfz := tfX.below (hL.mono tfX.size)
       have k23z := h3.later hL
       have k22z := k22X.later hL
       have hszX := h4.size
       have hszz := hL.size
       clear hzz tfX h3 k22X hcell hrt
       simp only [putL, Nat.reduceAdd, Act.put, List.setIfInBounds_toArray, List.set_cons_succ, List.set_cons_zero]
       rw [e134]
       clear e134
       have hqM := tfz.hq
       have c23 : Wz.cell? ⟨q23, 0, none⟩ = some (.int .i64 (kk : Int)) := (k23z.cell 0).trans rfl
       have f23 : Wz.frozen? ⟨q23, 0, none⟩ = false := k23z.frozen 0
       have hset := k23z.set 0 (.int .i64 ((kk : Int) + 1))
       have k22s := k22z.far (p := ⟨q23, 0, none⟩) (by show q22 ≠ q23; omega) (.int .i64 ((kk : Int) + 1))
       have k5s := tfz.k5.far (p := ⟨q23, 0, none⟩) (by show q ≠ q23; omega) (.int .i64 ((kk : Int) + 1))
       have c23s : (Wz.setCell ⟨q23, 0, none⟩ (.int .i64 ((kk : Int) + 1))).cell? ⟨q23, 0, none⟩ = some (.int .i64 ((kk : Int) + 1)) := (hset.cell 0).trans rfl
       have c22s : (Wz.setCell ⟨q23, 0, none⟩ (.int .i64 ((kk : Int) + 1))).cell? ⟨q22, 0, none⟩ = some (.int .i64 0) := (k22s.cell 0).trans rfl
       have c5s : (Wz.setCell ⟨q23, 0, none⟩ (.int .i64 ((kk : Int) + 1))).cell? ⟨q, 0, none⟩ = some (.int .i64 many) := (k5s.cell 0).trans rfl
       have hwr1 : IntKind.i64.wrap ((kk : Int) + 1) = (kk : Int) + 1 := IntWalk.i64_in _ (by omega)
       have hkwX : KeepB (fun b => b = q23) X (Wz.setCell ⟨q23, 0, none⟩ (.int .i64 ((kk : Int) + 1))) := (KeepB.later hL).trans (KeepB.setc Wz ⟨q23, 0, none⟩ _ rfl)
       have hkf : KeepsFrom WA.heap.size X (Wz.setCell ⟨q23, 0, none⟩ (.int .i64 ((kk : Int) + 1))) := hkwX.from_ (fun b h => by omega)
       have hkw2 : KeepB (fun b => b = q23 \/ b = WA.heap.size + 1) X (Wz.setCell ⟨q23, 0, none⟩ (.int .i64 ((kk : Int) + 1))) := hkwX.mono (fun b h => .inl h)
       have hsame : Same (fun k => k < WA.heap.size /\ k ≠ q23) WA (Wz.setCell ⟨q23, 0, none⟩ (.int .i64 ((kk : Int) + 1))) := (h4.trans ((Same.of_below hL).mono fun k hk => by have := hk.1; omega)).trans ((Same.set Wz ⟨q23, 0, none⟩ _).mono fun k hk => hk.2)
       clear k22s k5s hkwX h4 hL tfz k23z k22z
       by_cases hbr : many <= (kk : Int) + 1
       ·have hdb : decide (many <= (kk : Int) + 1) = true := decide_eq_true hbr
        gi_wp2_with fail
        exact ⟨hkf, hkw2, rfl, by rw [HPL.out]; exact HZE.out kk hki hcond hbr, by rw [HPL.out]; exact hset, hsame⟩
       ·have hdb : decide (many <= (kk : Int) + 1) = false := decide_eq_false hbr
        gi_wp2_with fail
        exact ⟨hkf, hkw2, by rw [HPL.out]; exact hki, .inr (by rw [HPL.out]; omega), by rw [HPL.out]; exact hset, hsame⟩
      case done =>
       rintro D0 ys X hD hS ⟨h1, h2, h3, h4⟩ hK
       have hyK : ys.length = K := by
        by_cases e : ys.length = K
        ·exact e
        ·have hg := HGK.out ys.length (by omega)
         exact absurd hg hS.2
       rw [hyK] at h2 h3
       have hZK := HZD.out h2
       exact hrest D0 X hD hK (by rw [hZK]; exact h3) h4
      case stop =>
       rintro D0 c' pre X hD hSp ⟨rfl, hZ, h3, h4⟩ hK
       rw [hZ] at h3
       gi_wp2
       exact hrest D0 X hD hK h3 h4
     rw [hT1] at hrest2 ⊢
     simp only [List.setIfInBounds_toArray, List.set_cons_succ, List.set_cons_zero] at hrest2
     clear hT1 hK2
     have HREST2 := Lib.hid hrest2
     clear hrest2
     go_loopw [16, 17] (fun v t wr => ∃ (k : Nat) (v14 : Value), k <= 8 /\ good m0.key BL k /\ v = .string ⟨(Rt.walk m0.key BL k).2.toArray⟩ /\ t = .int .i64 (k : Int) /\ BW X q14 q15 v14 (Rt.walk m0.key BL k).1 (wantL m0.key BL k) wr) (fun _ t _ => 9 - (intOf t).toNat)
     case atStart => exact ⟨0, _, by omega, fun i hi => by omega, rfl, rfl, hBW⟩
     case round =>
      obtain ⟨k2, v14, hk8, hgd, rfl, rfl, hB⟩ := hrel
      clear hBW
      have hkl := walk_len (s := BL) hm0w.1 k2
      have hgl := good_left hgd
      obtain ⟨K, hK⟩ : ∃ K, (Rt.walk m0.key BL k2).1 = K := ⟨_, rfl⟩
      obtain ⟨R, hR⟩ : ∃ R, (Rt.walk m0.key BL k2).2 = R := ⟨_, rfl⟩
      have hst : stepK m0.key BL k2 = Rt.peel K R := by unfold stepK; rw [hK, hR]
      rw [hK] at hkl hB
      rw [hR] at hgl ⊢
      have hRl : Hid (R.length <= 1000000) := Lib.hid (by omega)
      have HGD := Lib.hid hgd
      have HST0 := Lib.hid hst
      clear hgd hK hR hgl hst
      by_cases hlt : k2 < 8
      ·have hd : decide ((k2 : Int) < 8) = true := decide_eq_true (by omega)
       have hd' : decide (k2 < 8) = true := decide_eq_true hlt
       have hrp := refPeel_any K R hkl hRl.out wr
       have hst := HST0.out
       have hpw := peel_wf (s := R) hkl
       obtain ⟨P0, hP0⟩ : ∃ p, Rt.peel K R = p := ⟨_, rfl⟩
       obtain ⟨ph, pr, pe⟩ := P0
       rw [hP0] at hrp hst hpw
       simp only at hrp hpw
       have hld := loadH hkl hB.r15
       have HST := Lib.hid hst
       obtain ⟨A14, c14, e14, _, _, _⟩ := hB.own.slice
       rw [List.length_map, wantL_len] at e14
       subst e14
       have hba := fun j e => (hB.own.at_ j e).2
       clear hst hP0
       go_upto_region 20 with (first
        | (guard_target =~ wpList _ _ _ (_ :: _) _ _; refine wpList_load rfl 25 (.tmp 15) rfl (.pointer (some ⟨q15, 0, none⟩)) rfl hld ?_; simp only [Act.put, List.setIfInBounds_toArray, List.set_cons_zero, List.set_cons_succ])
        | (go_at_call 13; refine hrp.mono ?_; clear hrp; rintro e y5 ⟨rfl, L5⟩; obtain ⟨y6, hs6, k6', L6'⟩ := newHop y5 hpw)
        | (with_reducible refine wpList_alloc rfl 27 rfl (allocHop _) ?_)
        | (guard_target =~ wpList _ _ _ (_ :: _) _ _; refine wpList_store rfl 27 (.tmp 18) (.tmp 89) rfl (.pointer (some ⟨y5.heap.size, 0, none⟩)) (.agg (hopC ph)) rfl rfl hs6 ?_; simp only [Act.put, List.setIfInBounds_toArray, List.set_cons_zero, List.set_cons_succ])
        | fail)
       have L56 : Later wr y6 := (show Later wr y5 from L5).step L6'
       have hB6 := hB.later L56
       have hy5 : wr.heap.size <= y5.heap.size := Later.size L5
       obtain ⟨q8, hq8⟩ : ∃ q, q = y5.heap.size := ⟨_, rfl⟩
       rw [<- hq8] at hy5 k6' ⊢
       clear hs6 hld L5 L6' hB L56 hq8
       by_cases hpe : pe = 0
       ·subst hpe
        have hne0 : ∀ X', (binOp .neq 3 (.int .i64 0) (.int .i64 0)).run Tryz.prog X' = .ok (.bool false) X' := fun X' => neqI_me _ _ _
        have hl14 := loadHops ((hB6.r14.cell 0).trans rfl)
        have hl18 := loadHopR hpw k6'
        have L67 : Later y6 (y6.alloc (.cells (hopC ph) 27)) := below_new y6 _
        have hB7 := hB6.later L67
        have k7' := k6'.later L67
        have hrec : Recs 66 (y6.alloc (.cells (hopC ph) 27)) (some ⟨y6.heap.size, 0, none⟩) [hopL ph] := Recs.row (Row.new y6 27 _) (fun l hl => by rw [List.mem_singleton.1 hl]; exact hopL_len hpw) (fun j v hv => by simpa [hopL] using hv)
        have hle : ((wantL m0.key BL k2).map hopL).length + 1 <= 1000000000 := by rw [List.length_map, wantL_len]; omega
        have hwL : (wantL m0.key BL (k2 + 1)).map hopL = (wantL m0.key BL k2).map hopL ++ [hopL ph] := by rw [wantL_succ, HST.out, List.map_append]; rfl
        have HWL := Lib.hid hwL
        have HXy : X.heap.size <= (y6.alloc (.cells (hopC ph) 27)).heap.size := Later.size hB7.lat
        have hK7 := k7'.lt
        have own7 := hB7.own
        have HB7 := Lib.hid hB7
        clear hwL hB6 hB7 k6' hne0
        go_upto_region 22 with (first
         | (guard_target =~ wpList _ _ _ (_ :: _) _ _; refine wpList_load rfl 22 (.tmp 14) rfl (.pointer (some ⟨q14, 0, none⟩)) rfl hl14 ?_; simp only [Act.put, List.setIfInBounds_toArray, List.set_cons_zero, List.set_cons_succ])
         | (guard_target =~ wpList _ _ _ (_ :: _) _ _; refine wpList_load rfl 27 (.tmp 18) rfl (.pointer (some ⟨q8, 0, none⟩)) rfl hl18 ?_; simp only [Act.put, List.setIfInBounds_toArray, List.set_cons_zero, List.set_cons_succ])
         | (guard_target =~ wpList _ _ _ (_ :: _) _ _; refine wpList_buildSl rfl 22 1 #[(0, .tmp 95)] rfl #[(0, .agg (hopC ph))] (by simp only [List.map_toArray, List.map_cons, List.map_nil]; rfl) (buildHops1 hpw _) ?_; simp only [Act.put, List.setIfInBounds_toArray, List.set_cons_zero, List.set_cons_succ])
         | (guard_target =~ wpList _ _ _ (_ :: _) _ _; refine wpList_append_ga Tryz.underlying22 infoHopG (hopC_size noHop_wf) (by decide) (by decide) rfl (.tmp 94) (.tmp 96) rfl X.heap.size _ _ rfl own7 (some ⟨y6.heap.size, 0, none⟩) 1 1 [hopL ph] (fun l hl => List.mem_singleton.1 hl ▸ hopL_ok hpw) rfl rfl hrec hle HXy fun v2 w2 own2 g2 _ => ?_; obtain ⟨A2, c2, e2, _, _, _⟩ := own2.slice; subst e2; obtain ⟨c14', f14', hB9⟩ := HB7.out.grow (hs' := wantL m0.key BL (k2 + 1)) (Nat.le_of_eq HQ14.out.symm) g2 (by rw [HWL.out]; exact own2); have hst14 := storeHops (A := A2) (n := ((wantL m0.key BL k2).map hopL ++ [hopL ph]).length) (c := c2) c14' f14')
         | (guard_target =~ wpList _ _ _ (_ :: _) _ _; refine wpList_store rfl 22 (.tmp 14) (.tmp 97) rfl (.pointer (some ⟨q14, 0, none⟩)) (.slice A2 ((wantL m0.key BL k2).map hopL ++ [hopL ph]).length c2) rfl rfl hst14 ?_; simp only [Act.put, List.setIfInBounds_toArray, List.set_cons_zero, List.set_cons_succ])
         | fail)
        have k9 : Row (w2.setCell ⟨q14, 0, none⟩ (.slice A2 ((wantL m0.key BL k2).map hopL ++ [hopL ph]).length c2)) q8 27 (hopC ph) := by
         have hne8 : some q8 ≠ (Value.slice A14 k2 c14).ownBlock := fun e => by
          have := hba q8 e.symm
          omega
         have k8 := k7'.grown g2 hne8
         exact k8.far (fun e => ne_typesR k8 (HB7.out.r14.grown g2 (fun e2 => by obtain ⟨cs', h1⟩ := own7.type e2.symm; exact ne_typesR h1 HB7.out.r14 (by decide) rfl)) (by decide) e) _
        have hl1 := loadNextR hpw k9
        have hf1 : (Instr.fieldAt 27 (.pointer (some ⟨q8, 0, none⟩)) 1).run Tryz.prog (w2.setCell ⟨q14, 0, none⟩ (.slice A2 ((wantL m0.key BL k2).map hopL ++ [hopL ph]).length c2)) = .ok (.pointer (some ⟨q8, 32, none⟩)) (w2.setCell ⟨q14, 0, none⟩ (.slice A2 ((wantL m0.key BL k2).map hopL ++ [hopL ph]).length c2)) := fHop1
        have HWK := Lib.hid (show Rt.walk m0.key BL (k2 + 1) = (second ph.next, pr) by
         show (second (stepK m0.key BL k2).1.next, (stepK m0.key BL k2).2.1) = _
         rw [HST.out])
        clear hst14 own2 g2 c14' f14' k7' own7 HB7 hrec hle hl14 hl18 hba L67 HXy hK7 hy5
        generalize w2.setCell ⟨q14, 0, none⟩ (.slice A2 ((wantL m0.key BL k2).map hopL ++ [hopL ph]).length c2) = y9 at *
        go_upto_region 18 with (first
         | (guard_target =~ wpList _ _ _ (_ :: _) _ _; refine wpList_field rfl 27 (.tmp 18) 1 rfl (.pointer (some ⟨q8, 0, none⟩)) rfl hf1 ?_; simp only [Act.put, List.setIfInBounds_toArray, List.set_cons_zero, List.set_cons_succ])
         | (guard_target =~ wpList _ _ _ (_ :: _) _ _; refine wpList_load rfl 25 (.tmp 98) rfl (.pointer (some ⟨q8, 32, none⟩)) rfl hl1 ?_; simp only [Act.put, List.setIfInBounds_toArray, List.set_cons_zero, List.set_cons_succ])
         | (go_at_call 20; refine (second_any _ hpw.2 _).mono ?_; rintro e y10 ⟨rfl, L10⟩; have hB10 := hB9.later L10; obtain ⟨y11, hst15, kq11, hg11⟩ := storeH (a := K) (b := second ph.next) (Nat.le_of_eq hkl) (Nat.le_of_eq (second_len hpw.2)) hB10.r15)
         | (guard_target =~ wpList _ _ _ (_ :: _) _ _; refine wpList_store rfl 25 (.tmp 15) (.tmp 100) rfl (.pointer (some ⟨q15, 0, none⟩)) (.agg (hC (second ph.next))) rfl rfl hst15 ?_; simp only [Act.put, List.setIfInBounds_toArray, List.set_cons_zero, List.set_cons_succ])
         | fail)
        have HB11 := Lib.hid (hB10.key HQ15 kq11 hg11)
        have e1 : IntKind.i64.wrap ((k2 : Int) + 1) = (k2 : Int) + 1 := IntWalk.i64_in _ (by omega)
        clear hB10 hB9 kq11 hg11 hst15 hf1 hl1 k9 L10
        go_wp2_with fail
        go_roundw
        case rel =>
         refine ⟨k2 + 1, .slice A2 ((wantL m0.key BL k2).map hopL ++ [hopL ph]).length c2, by omega, fun i hi => ?_, ?_, by go_num, ?_⟩
         ·by_cases e : i = k2
          ·rw [e, HST.out]
          ·exact HGD.out i (by omega)
         ·rw [HWK.out]
         ·rw [HWK.out]; exact HB11.out
        case measure => simp [intOf]; omega
       ·have e1 : (pe == 0) = false := beq_eq_false_iff_ne.2 hpe
        have e2 : (pe != 0) = true := by simp [hpe]
        have e3 : decide (pe = 0) = false := decide_eq_false hpe
        have HB6 := Lib.hid hB6
        clear hB6 k6'
        go_wp2_with fail
        exact HREST2.out _ _ _ _ _ _ _ _ _ _ _ _ _ _ _ _ _ _ _ _ _ _ _ _ _ _ k2 _ K _ HGD.out (by rw [HST.out]; exact hpe) HB6.out
      ·obtain rfl : k2 = 8 := by omega
       have HB := Lib.hid hB
       clear hB
       go_wp2_with fail
       refine HREST2.out _ _ _ _ _ _ _ _ _ _ _ _ _ _ _ _ _ _ _ _ _ _ _ _ _ _ 8 _ K _ HGD.out (fun h0 => ?_) HB.out
       have h9 : good m0.key BL 9 := fun i hi => by
        by_cases e : i = 8
        ·rw [e]; exact h0
        ·exact HGD.out i (by omega)
       have := good_most h9
       omega
    have HREST := Lib.hid hrest
    clear hrest hK1
    rw [hT0] at HREST ⊢
    clear hT0
    have HR := Lib.hid HREST.out
    clear HREST
    have hrest := HR.out
    simp only [List.setIfInBounds_toArray, List.set_cons_succ, List.set_cons_zero] at hrest
    have HREST := Lib.hid hrest
    clear hrest HR
    by_cases ha0 : 0 <= at_
    case neg =>
     have e1 : decide (at_ ≥ 0) = false := decide_eq_false (by omega)
     have e2 : decide (0 <= at_) = false := decide_eq_false ha0
     have hbe : bent S at_ by8 = S := by unfold bent; rw [if_neg (by omega)]
     go_wp2_with fail
     exact HREST.out _ _ _ _ _ _ _ _ _ _ _ _ _ _ _ _ (by rw [hbe]; exact own7) (Below.refl _ _)
    case pos =>
     have e1 : decide (at_ ≥ 0) = true := decide_eq_true (by omega)
     have e2 : decide (0 <= at_) = true := decide_eq_true ha0
     obtain ⟨i, rfl⟩ := Int.eq_ofNat_of_zero_le ha0
     by_cases hiN : i < N
     case neg =>
      have e3 : decide ((i : Int) < (N : Int)) = false := decide_eq_false (by omega)
      have e4 : decide (i < N) = false := decide_eq_false hiN
      have hbe : bent S (i : Int) by8 = S := by unfold bent; rw [if_neg (by rw [HNS.out]; omega)]
      go_wp2_with fail
      exact HREST.out _ _ _ _ _ _ _ _ _ _ _ _ _ _ _ _ (by rw [hbe]; exact own7) (Below.refl _ _)
     case pos =>
      have e3 : decide ((i : Int) < (N : Int)) = true := decide_eq_true (by omega)
      have e4 : decide (i < N) = true := decide_eq_true hiN
      have hiS : i < S.length := by rw [HNS.out]; exact hiN
      obtain ⟨c1, f1, ownP⟩ := own7.put i hiS (S[i] + by8)
      have hbe : bent S (i : Int) by8 = S.set i (S[i] + by8) := by
       unfold bent
       rw [if_pos (by omega), Int.toNat_natCast, List.getD_eq_getElem?_getD, List.getElem?_eq_getElem hiS]
       rfl
      rw [<- hbe] at ownP
      have hbv : byteV (S[i] + by8) = .int .u8 (((S[i].toNat : Int) + (by8.toNat : Int)) % 256) := by
       unfold byteV
       rw [UInt8.toNat_add]
       simp
      have hbvS : byteV S[i] = .int .u8 (S[i].toNat : Int) := rfl
      rw [hbv] at ownP
      rw [hbvS] at c1
      have hb7 : Below gB w7 (w7.setCell ⟨gB, i, none⟩ (.int .u8 (((S[i].toNat : Int) + (by8.toNat : Int)) % 256))) := (Below.refl gB w7).setCell (p := ⟨gB, i, none⟩) (Nat.le_refl _) _
      have HB7 := Lib.hid hb7
      have HOP := Lib.hid ownP
      have h8 := by8.toNat_lt
      have hs8 := S[i].toNat_lt
      generalize S[i].toNat = x at *
      clear hbe hbv hbvS hb7 ownP own7
      go_wp2_with fail
      exact HREST.out _ _ _ _ _ _ _ _ _ _ _ _ _ _ _ _ HOP.out HB7.out
end Go.Proofs.YtloiaaolnfimgaaGreat
namespace Go.Proofs.YtloiaaolnfimgaaGreat
open Go.RowKit Rt
theorem routeGoes_walk (A : Option Addr) (n c : Nat) (l : List Hop) (many : Int) (wm : (Lit.int .i64 many).wf = true) (at_ : Int) (wa : (Lit.int .i64 at_).wf = true) (x : Int) (wx : (Lit.int .u8 x).wf = true) (w : World) (hi : InHops w A n c l) :
  Calls Tryz.prog 7 #[.slice A n c, .int .i64 many, .int .i64 at_, .int .u8 x] w fun e w' => e = .returned (.bool true) /\ Below w.heap.size w w' := by
 have hai : -9223372036854775808 <= at_ /\ at_ <= 9223372036854775807 := by
  simp [Lit.wf, IntKind.min, IntKind.max, IntKind.signed, IntKind.bits] at wa
  omega
 have hmi : -9223372036854775808 <= many /\ many <= 9223372036854775807 := by
  simp [Lit.wf, IntKind.min, IntKind.max, IntKind.signed, IntKind.bits] at wm
  omega
 obtain ⟨y, rfl⟩ : ∃ y : UInt8, x = (y.toNat : Int) := by
  simp [Lit.wf, IntKind.min, IntKind.max, IntKind.signed, IntKind.bits] at wx
  refine ⟨UInt8.ofNat x.toNat, ?_⟩
  rw [UInt8.toNat_ofNat']
  omega
 by_cases hbig : 10 < n
 ·refine Calls.post fun Φ HΦ => ?_
  have k5 := (Row.new w 3 #[.int .i64 many]).alloc (.cells #[.bool false] 4)
  have k6 := Row.new (w.alloc (.cells #[.int .i64 many] 3)) 4 #[.bool false]
  have hL1 := ((Later.refl w).alloc (.cells #[.int .i64 many] 3)).alloc (.cells #[.bool false] 4)
  simp only [World.size_alloc] at k6
  refine (callsIn_wide (n := 12)).1 ?_
  refine callsIn_of_wp_marks Tryz.func7 rfl trivial ?_ rfl
  simp only [Tryz.ntmps7, List.size_toArray, List.length_cons, List.length_nil, Nat.reduceAdd, Nat.reduceSub, Array.replicate_succ, Array.replicate_zero, List.push_toArray, List.append_toArray, List.nil_append, List.cons_append]
  refine wpIn_wide.2 ?_
  have d1 : decide ((n : Int) > 10) = true := decide_eq_true (by omega)
  have d1' : decide (10 < n) = true := decide_eq_true hbig
  clear hi
  go_upto_region 1 with fail
  obtain ⟨q, hq⟩ : ∃ q, q = w.heap.size := ⟨_, rfl⟩
  rw [<- hq] at k5 k6 ⊢
  obtain ⟨r, hrr⟩ : ∃ r, r = q + 1 := ⟨_, rfl⟩
  rw [<- hrr] at k6 ⊢
  have HRR := Lib.hid hrr
  have HQ := Lib.hid hq
  clear hq hrr
  generalize (w.alloc (.cells #[.int .i64 many] 3)).alloc (.cells #[.bool false] 4) = w1 at *
  go_wp2_with (first
   | (go_at_call 8; refine (works_yes _).mono ?_; rintro e w7 ⟨rfl, L7⟩; have k67 := k6.later (show Later w1 w7 from L7); have c6 : w7.cell? ⟨r, 0, none⟩ = some (.bool false) := (k67.cell 0).trans rfl; have f6 : w7.frozen? ⟨r, 0, none⟩ = false := k67.frozen 0)
   | fail)
  have hfin := leaveX0 (show Below w.heap.size w w7 from hL1.step L7) k67 (by have := HQ.out; have := HRR.out; omega)
  exact retM (by simp [results, Tryz.results7, go_sem, hfin.1]) (HΦ.out _ _ ⟨rfl, hfin.2⟩)
 ·exact routeGoes_main A n c l many at_ y w hi (by omega) hmi hai
end Go.Proofs.YtloiaaolnfimgaaGreat
