/- Joined: ShaT1, ShaT2, ShaT3, ShaT4, ShaT5, ShaT6, ShaT7, ShaT8, ShaT9, ShaT10. -/
import Derived.Test.YthabgfghogdkcaaDoorSb2
set_option linter.unusedVariables false
set_option linter.unusedSimpArgs false
namespace Go.Proofs.YthabgfghogdkcaaDoor
open Go.RowKit
theorem boxH (h : List UInt8) (hl : h.length = 32) (w : World) : (Instr.box 23 (.agg (hC h))).run Tryd.prog w = .ok (.pointer (some ⟨w.heap.size, 0, none⟩)) (w.alloc (.cells (hC h) 23)) := by
  have hs := hC_size h (by omega)
  go_simp
end Go.Proofs.YthabgfghogdkcaaDoor
namespace Go.Proofs.YthabgfghogdkcaaDoor
open Go.RowKit
def signB (n : Nat) : UInt8 := [48, 49, 50, 51, 52, 53, 54, 55, 56, 57, 97, 98, 99, 100, 101, 102].getD n 0
def hex2 (c : UInt8) : List UInt8 := [signB (c.toNat / 16), signB (c.toNat % 16)]
def textOf (h : List UInt8) : List UInt8 := h.flatMap hex2
theorem textOf_len (h : List UInt8) : (textOf h).length = 2 * h.length := by
  induction h with
  | nil => rfl
  | cons c h ih => rw [textOf, List.flatMap_cons, List.length_append, ← textOf, ih]; simp [hex2]; omega
theorem textOf_snoc (h : List UInt8) (c : UInt8) : textOf (h ++ [c]) = textOf h ++ hex2 c := by simp [textOf]
def signs : ByteArray := { data := #[48, 49, 50, 51, 52, 53, 54, 55, 56, 57, 97, 98, 99, 100, 101, 102] }
theorem idxSign (n : Nat) (hn : n < 16) (w : World) : (Instr.index 9 (.string signs) (.int .u8 (n : Int))).run Tryd.prog w = .ok (.int .u8 ((signB n).toNat : Int)) w := by
  have h16 : n = 0 ∨ n = 1 ∨ n = 2 ∨ n = 3 ∨ n = 4 ∨ n = 5 ∨ n = 6 ∨ n = 7 ∨ n = 8 ∨ n = 9 ∨ n = 10 ∨ n = 11 ∨ n = 12 ∨ n = 13 ∨ n = 14 ∨ n = 15 := by omega
  rcases h16 with rfl | rfl | rfl | rfl | rfl | rfl | rfl | rfl | rfl | rfl | rfl | rfl | rfl | rfl | rfl | rfl
  all_goals (show _ = _; kernel_rfl)
theorem idxHash {cs : Array Value} {k : Nat} {v : Value} {W : World} (hk : k < 32) (h : cs[k]? = some v) : (Instr.index 23 (.agg cs) (.int .i64 (k : Int))).run Tryd.prog W = .ok v W := by
  have h1 : (k : Int) < 32 := by omega
  have h2 : (0 : Int) ≤ (k : Int) := by omega
  obtain ⟨i, hi0, hz, hs, hb⟩ := info_parts info5
  simp [Instr.index, run_underlying Tryd.underlying23, asIntOf, h1, h2, sizeOf, typeInfo, hi0, hs]
  rw [if_pos hk]
  have h' : cs[k]?.getD undef = v := by rw [h]; rfl
  simp [part, go_sem, sizeOf, typeInfo, hi0, hs, h, h']
theorem hC_get (h : List UInt8) (k : Nat) (hk : k < h.length) (hl : h.length ≤ 32) : (hC h)[k]? = some (.int .u8 ((h[k]).toNat : Int)) := by
  unfold hC
  rw [List.getElem?_toArray, List.getElem?_map, List.getElem?_append_left hk, List.getElem?_eq_getElem hk]
  rfl
theorem loadH {w : World} {g : Nat} {h : List UInt8} (hl : h.length = 32) (hr : Row w g 23 (hC h)) : (Instr.loadAt 23 (.pointer (some ⟨g, 0, none⟩))).run Tryd.prog w = .ok (.agg (hC h)) w := by
  have := run_loadAt_mid (P := Tryd.prog) w g 0 23 (hC h).toList _ (hr.range 0 _ fun j v hv => by rw [Nat.zero_add, ← Array.getElem?_toList]; exact hv) Tryd.underlying23 rfl (by rw [Array.length_toList, hC_size h (by omega)]; exact infoH)
  rwa [Array.toArray_toList] at this
theorem byteCells_snoc2 (l : List UInt8) (a b : UInt8) : Lib.byteCells l ++ [.int .u8 (a.toNat : Int)] ++ [.int .u8 (b.toNat : Int)] = Lib.byteCells (l ++ [a, b]) := by simp [Lib.byteCells]
end Go.Proofs.YthabgfghogdkcaaDoor
namespace Go.Proofs.YthabgfghogdkcaaDoor
open Go.RowKit
theorem results_cell_tmp {P : Program} {fn : Func} {p q : Tmp} {ty : TypeId} (h : fn.results = #[.cell p ty, .tmp q]) (tmps : Array Value) (w : World) (g : Nat) (t : TypeId) (cs : Array Value) (fr : Nat × Nat) (d : TypeDesc) (v : Value)
    (hp : tmps.getD p undef = .pointer (some ⟨g, 0, none⟩)) (hq : tmps.getD q undef = v) (hg : w.heap[g]? = some (.cells cs t fr))
    (hu : P.underlying ty = some d) (hd : (match d with | .struct _ | .array _ _ => true | _ => false) = true) (hi : (P.info? ty).map (·.size) = some cs.size) :
    (results fn tmps).run P w = .ok (.tuple #[.agg cs, v]) w := by
  have hp' : tmps[p]?.getD undef = .pointer (some ⟨g, 0, none⟩) := by simpa using hp
  have hq' : tmps[q]?.getD undef = v := by simpa using hq
  simp [results, h, hp', hq', asAddr, run_loadVar_row w g t ty cs fr d hg hu hd hi]
def signsL : List UInt8 := [48, 49, 50, 51, 52, 53, 54, 55, 56, 57, 97, 98, 99, 100, 101, 102]
def newb (x : UInt8) (d : Nat) : UInt8 := UInt8.ofNat (x.toNat * 16 + d)
theorem or_new (x : UInt8) (d : Nat) (hd : d < 16) : bits .or .u8 ((x.toNat : Int) * 16 % 256) (d : Int) = ((newb x d).toNat : Int) := by
  have hx := x.toNat_lt
  rw [show (x.toNat : Int) * 16 % 256 = ((x.toNat * 16 % 256 : Nat) : Int) from by omega, u8_or_nat _ _ (by omega) (by omega), nat_join 4 _ _ (by omega) (by omega)]
  unfold newb
  rw [UInt8.toNat_ofNat']
  omega
theorem hC_set (h : List UInt8) (i : Nat) (x : UInt8) (hl : h.length = 32) : (hC h).setIfInBounds i (byteV x) = hC (h.set i x) := by
  unfold hC
  rw [List.length_set, hl]
  simp only [Sha.zeros, Nat.sub_self, List.replicate_zero, List.append_nil]
  simp [List.map_set]
theorem buildH0 (w : World) : (Instr.build 23 #[]).run Tryd.prog w = .ok (.agg (hC [])) w := by kernel_rfl
theorem storeH {w : World} {g : Nat} {a b : List UInt8} (ha : a.length ≤ 32) (hb : b.length ≤ 32) (hr : Row w g 23 (hC a)) : ∃ w', (Instr.storeAt 23 (.pointer (some ⟨g, 0, none⟩)) (.agg (hC b))).run Tryd.prog w = .ok () w' ∧ Row w' g 23 (hC b) ∧ w.grownBy w' (some g) := by
  have h1 := hC_size a ha
  have h2 := hC_size b hb
  refine ⟨_, run_store_row hr (hC b) (by rw [h2]; exact infoH) (by rw [h1, h2]; omega) (hC_one _), ?_, grown_setCells _ _ _⟩
  have hr2 := row_setCells (hC b).toList 0 w _ hr
  rw [setFrom_whole _ _ (by rw [Array.length_toList, h1, h2]), Array.toArray_toList] at hr2
  exact hr2
end Go.Proofs.YthabgfghogdkcaaDoor
namespace Go.Proofs.YthabgfghogdkcaaDoor
open Go.RowKit
theorem loop_len (bs : ByteArray) : ∀ (n i : Nat) (r : List UInt8), bs.size - i = n → (ByteArray.toList.loop bs i r).length = n + r.length := by
  intro n
  induction n with
  | zero =>
    intro i r h
    rw [ByteArray.toList.loop, if_neg (by omega)]
    simp
  | succ n ih =>
    intro i r h
    rw [ByteArray.toList.loop, if_pos (by omega), ih (i + 1) _ (by omega), List.length_cons]
    omega
theorem toList_nonempty (bs : ByteArray) (h : 0 < bs.size) : bs.toList.isEmpty = false := by
  have := loop_len bs bs.size 0 [] (by omega)
  cases h2 : bs.toList with
  | nil =>
    unfold ByteArray.toList at h2
    rw [h2] at this
    simp at this
    omega
  | cons _ _ => rfl
end Go.Proofs.YthabgfghogdkcaaDoor
namespace Go.Proofs.YthabgfghogdkcaaDoor
open Go.RowKit
theorem eqg_quo {T : TypeId} {x y : Operand} {vx vy : Value} {P : Program} {W : World} : (eqGuard .quo T x y vx vy).run P W = .ok () W := rfl
theorem quo16 {x : Nat} {W : World} (hx : x < 256) : (binOp .quo 5 (.int .u8 (x : Int)) (.int .u8 16)).run Tryd.prog W = .ok (.int .u8 ((x / 16 : Nat) : Int)) W := by
  have e : ((x : Int).tdiv 16) = ((x / 16 : Nat) : Int) := by rw [Int.tdiv_eq_ediv_of_nonneg (by omega)]; rfl
  go_simp
  simp [IntKind.wrap, IntKind.bits, IntKind.signed]
  omega
theorem rem16 {x : Nat} {W : World} : (binOp .rem 5 (.int .u8 (x : Int)) (.int .u8 16)).run Tryd.prog W = .ok (.int .u8 ((x % 16 : Nat) : Int)) W := by
  have e : ((x : Int).tmod 16) = ((x % 16 : Nat) : Int) := by rw [Int.tmod_eq_emod_of_nonneg (by omega)]; rfl
  go_simp
theorem load8 {b o : Nat} {x : Int} {W : World} (hc : W.cell? ⟨b, o, none⟩ = some (.int .u8 x)) : (Instr.loadAt 5 (.pointer (some ⟨b, o, none⟩))).run Tryd.prog W = .ok (.int .u8 x) W := by
  go_simp
theorem idxHp {b j : Nat} {W : World} (h : j < 32) : (Instr.indexAt 23 (.pointer (some ⟨b, 0, none⟩)) (.int .i64 (j : Int))).run Tryd.prog W = .ok (.pointer (some ⟨b, j, none⟩)) W := by
  have h1 : (j : Int) < 32 := by omega
  have h2 : (0 : Int) ≤ (j : Int) := by omega
  go_simp
theorem run_bytes2 (x y : Int) (W : World) : (Instr.buildSlice 40 2 #[(0, .int .u8 x), (1, .int .u8 y)]).run Tryd.prog W = .ok (.slice (some ⟨W.heap.size, 0, none⟩) 2 2) (W.alloc (.cells #[.int .u8 x, .int .u8 y] 5)) := by kernel_rfl
end Go.Proofs.YthabgfghogdkcaaDoor
namespace Go.Proofs.YthabgfghogdkcaaDoor
open Go.RowKit
theorem eqg_eql {x y : Operand} {a b : Int} {W : World} : (eqGuard .eql 5 x y (.int .u8 a) (.int .u8 b)).run Tryd.prog W = .ok () W := by kernel_rfl
theorem eql8 {a b : Int} {W : World} : (binOp .eql 5 (.int .u8 a) (.int .u8 b)).run Tryd.prog W = .ok (.bool (a == b)) W := by kernel_rfl
theorem op_index {P : Program} {Q : Exit → Act → World → Prop} {o : Oper} {a : Act} {W : World} {R : Value → World → Prop} {t : TypeId} {x y : Operand} {vx vy v : Value} (ho : o.op = .index t x y) (hx : a.eval x = vx) (hy : a.eval y = vy) (hr : (Instr.index t vx vy).run P W = .ok v W) (h : R v W) : o.wp P a W (fun a' W' => ∃ v, a' = a.put o.dst v ∧ Later W W' ∧ R v W') Q := by
  refine op_value (v := v) (W' := W) ?_ (Later.refl _) h
  unfold execOp
  simp only [ho, hx, hy, hr, Sem.run_bind, Sem.run_pure, Result.andThen_ok]
theorem idxStr {s : ByteArray} {k : Nat} {c : UInt8} (hk : k < s.size) (hc : s[k] = c) (W : World) : (Instr.index 9 (.string s) (.int .i64 (k : Int))).run Tryd.prog W = .ok (.int .u8 (c.toNat : Int)) W := by
  have h1 : (k : Int) < (s.size : Int) := by omega
  have h2 : (0 : Int) ≤ (k : Int) := by omega
  subst hc
  go_simp
end Go.Proofs.YthabgfghogdkcaaDoor
namespace Go.Proofs.YthabgfghogdkcaaDoor
open Go.RowKit
/-- A slice of slices, each with room that a machine has. -/
def RdsC (w : World) (A : Option Addr) (ls : List (List UInt8)) : Prop :=
  ls ≠ [] → ∃ b o, A = some ⟨b, o, none⟩ ∧ ∀ i (h : i < ls.length), ∃ Ai ci, w.cell? ⟨b, o + i, none⟩ = some (.slice Ai ls[i].length ci) ∧ ls[i].length ≤ ci ∧ ci ≤ 9223372036854775807 ∧ Rd w Ai ls[i]
theorem RdsC.nil (w : World) (A : Option Addr) : RdsC w A [] := fun h => absurd rfl h
theorem RdsC.below {w w' : World} {A : Option Addr} {ls : List (List UInt8)} (h : RdsC w A ls) (hb : Below w.heap.size w w') : RdsC w' A ls := fun hl => by
  obtain ⟨b, o, e, hc⟩ := h hl
  refine ⟨b, o, e, fun i hi => ?_⟩
  obtain ⟨Ai, ci, h1, h2, h3, h4⟩ := hc i hi
  exact ⟨Ai, ci, (hb.cell (p := ⟨b, o + i, none⟩) (block_lt_of_cell h1)).trans h1, h2, h3, h4.below hb⟩
theorem RdsC.at_ {w : World} {A : Option Addr} {ls : List (List UInt8)} (h : RdsC w A ls) {k : Nat} (hk : k < ls.length) : ∃ b o Ai ci, A = some ⟨b, o, none⟩ ∧ w.cell? ⟨b, o + k, none⟩ = some (.slice Ai ls[k].length ci) ∧ ls[k].length ≤ ci ∧ ci ≤ 9223372036854775807 ∧ Rd w Ai ls[k] := by
  obtain ⟨b, o, e, hc⟩ := h (by intro e; subst e; simp at hk)
  obtain ⟨Ai, ci, h1⟩ := hc k hk
  exact ⟨b, o, Ai, ci, e, h1⟩
theorem RdsC.one {w : World} {A : Option Addr} {n c g : Nat} {l : List UInt8} (t : TypeId) (hg : w.heap.size = g) (h : Rd w A l) (hn : l.length = n) (hc : n ≤ c) (hm : c ≤ 9223372036854775807) : RdsC (w.alloc (.cells #[.slice A n c] t)) (some ⟨g, 0, none⟩) [l] := fun _ =>
  ⟨_, _, rfl, fun i hi => by
    have e : i = 0 := by simpa using hi
    subst e
    subst hn
    subst hg
    exact ⟨A, c, ((Row.new w t _).cell 0).trans rfl, hc, hm, h.alloc _⟩⟩
theorem take_flat (ls : List (List UInt8)) (k : Nat) : (ls.take k).flatten.length ≤ ls.flatten.length := by
  have := congrArg (fun x => (List.flatten x).length) (List.take_append_drop k ls)
  simp only [List.flatten_append, List.length_append] at this
  omega
set_option maxRecDepth 100000 in
set_option maxHeartbeats 4000000 in
theorem shaSum_any (A : Option Addr) (n cap : Nat) (ls : List (List UInt8)) (w : World) (hn : ls.length = n) (hm : n ≤ 1000000000) (hmax : ls.flatten.length ≤ 1000000000) (hr : RdsC w A ls) :
    Calls Tryd.prog 51 #[.slice A n cap] w fun e w' => e = .returned (.agg (hC (Sha.sum ls.flatten))) ∧ Below w.heap.size w w' := by
  subst hn
  have hrowA := Row.new w 23 (hC [])
  have hbA := below_new w (.cells (hC []) 23)
  have HMAX := Lib.hid hmax
  have HR := Lib.hid hr
  clear hmax hr
  go_enter Tryd.func51, Tryd.ntmps51
  go_wp2_with (first
    | (with_reducible refine wpList_alloc rfl 23 rfl (allocH _) ?_)
    | (go_at_call 57; refine (new_any _).mono ?_; rintro e w1 ⟨g, rfl, hrun1, hg1, hb1⟩))
  have hb1' : Below w.heap.size w w1 := hbA.trans (hb1.mono hbA.size)
  have hgw : w.heap.size < g := by
    have : (w.alloc (.cells (hC []) 23)).heap.size = w.heap.size + 1 := World.size_alloc _ _
    omega
  have hrow1 : Row w1 w.heap.size 23 (hC []) := hrowA.belowAll hb1
  clear hb1 hbA hrowA hg1
  go_loopw [5, 9] (fun _ t wr => ∃ k : Nat, k ≤ ls.length ∧ t = .int .i64 k ∧ IsRun wr g (ls.take k).flatten ∧ Row wr w.heap.size 23 (hC []) ∧ Below w.heap.size w wr) (fun _ t _ => ls.length - (intOf t).toNat)
  case atStart => exact ⟨0, by omega, rfl, hrun1, hrow1, hb1'⟩
  case round =>
    obtain ⟨k, hk, rfl, hrun, hrow, hb⟩ := hrel
    clear hrun1 hrow1 hb1'
    have hsz0 := hb.size
    by_cases hlt : k < ls.length
    · obtain ⟨b, o, Ai, ci, rfl, hc1, hci, hcm, hrd1⟩ := HR.out.at_ hlt
      have hc : wr.cell? ⟨b, o + k, none⟩ = some (.slice Ai ls[k].length ci) := (hb.cell (p := ⟨b, o + k, none⟩) (block_lt_of_cell hc1)).trans hc1
      have hrd := hrd1.below hb
      have hlt1 : ∀ ad, Ai = some ad → ls[k] ≠ [] → ad.block ≠ g := fun ad e hl => by
        obtain ⟨b', o', e', _⟩ := hrd1 hl
        rw [e] at e'
        injection e' with e'
        have := hrd1.lt (e.trans (congrArg some e')) hl
        rw [e']
        exact Nat.ne_of_lt (Nat.lt_trans this hgw)
      have hnext : (ls.take (k + 1)).flatten = (ls.take k).flatten ++ ls[k] := by
        rw [List.take_succ_eq_append_getElem hlt, List.flatten_append]; simp
      have hpl : (ls.take k).flatten.length + ls[k].length ≤ 1099511627776 := by
        have := take_flat ls (k + 1)
        have h2 := HMAX.out
        rw [hnext, List.length_append] at this
        omega
      have HN := Lib.hid hnext
      have HL := Lib.hid hlt1
      clear hnext hlt1 hc1 hrd1
      generalize (ls.take k).flatten = z at *
      generalize ls[k] = l at *
      go_wp2_with (first | (go_at_call 58; refine (write_any g z Ai _ ci l _ hrun rfl hci hcm hrd HL.out hpl).mono ?_; rintro e w2 ⟨rfl, hrun2, hg2⟩))
      have hrow2 := hrow.grown hg2 (by intro e; injection e with e; omega)
      have hb2 := hb.grown hg2 hb.size (fun j e => by cases e; omega)
      go_roundw
      case rel => exact ⟨k + 1, by omega, by go_num, by rw [HN.out]; exact hrun2, hrow2, hb2⟩
      case measure => simp [intOf]; omega
    · obtain rfl : k = ls.length := by omega
      rw [List.take_length] at hrun
      have hL := HMAX.out
      have hslen : (Sha.sum ls.flatten).length = 32 := Sha.sum_len _
      obtain ⟨z, hz⟩ : ∃ z, ls.flatten = z := ⟨_, rfl⟩
      rw [hz] at hrun hL hslen
      have HZ := Lib.hid hz
      clear hz
      go_wp2_with (first
        | (go_at_call 59; refine (runSum_any g z _ hrun hL).mono ?_; rintro e w2 ⟨rfl, hb2⟩; have hrow2 := hrow.belowAll hb2; obtain ⟨w9, hst, hr9, hg9⟩ := storeH (a := []) (b := Sha.sum z) (by simp) (by omega) hrow2)
        | (refine wpList_store rfl 23 (.tmp 2) (.tmp 18) rfl (.pointer (some ⟨w.heap.size, 0, none⟩)) (.agg (hC (Sha.sum z))) rfl rfl hst ?_))
      have hb2' : Below w.heap.size w w2 := hb.trans (hb2.mono hb.size)
      refine bodyPost_ret (results_cell_row rfl _ _ w.heap.size 23 (hC (Sha.sum z)) (0, 0) _ rfl hr9 Tryd.underlying23 rfl (by rw [hC_size _ (by omega)]; exact infoH)) rfl ⟨by rw [HZ.out], hb2'.grown hg9 hb2'.size (fun j e => by cases e; exact Nat.le_refl _)⟩
theorem boxHat (h : List UInt8) (hl : h.length = 32) (w : World) : (Instr.box 23 (.agg (hC h))).run Tryd.prog w = .ok (.pointer (some ⟨w.heap.size, 0, none⟩)) (w.alloc (.cells (hC h) 23)) := boxH h hl w
theorem rd_hash {w : World} {g : Nat} {h : List UInt8} {t : TypeId} (hl : h.length = 32) (hr : Row w g t (hC h)) : Rd w (some ⟨g, 0, none⟩) h := fun _ =>
  ⟨_, _, rfl, fun i hi => by
    rw [hr.cell, Nat.zero_add]
    exact hC_get h i hi (by omega)⟩
theorem num_any (n : Int) (w : World) : Calls Tryd.prog 8 #[.int .i64 n] w fun e w' => e = .returned (.int .i64 n) ∧ w = w' := by
  go_enter Tryd.func8, Tryd.ntmps8
  go_wp2
  go_ret
  exact ⟨rfl, rfl⟩
end Go.Proofs.YthabgfghogdkcaaDoor
namespace Go.Proofs.YthabgfghogdkcaaDoor
open Go.RowKit
section
variable {P : Program} {ops : Array Oper} {rest : List Oper} {o : Oper} {a : Act} {w : World} {Q : Exit → Act → World → Prop}
theorem wpList_slice0 (hgd : o.guard = none) (T : TypeId) (x : Operand) (ho : o.op = .slice T x none none none) (vx : Value) (hx : a.eval x = vx) {v : Value} {w' : World} (hr : (Instr.sliceAt T vx none none none).run P w = .ok v w')
    (h : wpList P ops Q rest (a.put o.dst v) w') : wpList P ops Q (o :: rest) a w :=
  wpList_plain hgd fun _ hK => by
    unfold Oper.wp execOp
    simp only [ho, Sem.run_bind, Sem.run_pure, Result.andThen_ok, Option.map_none, hx, hr]
    exact hK _ _ h
theorem wpList_buildSl (hgd : o.guard = none) (T : TypeId) (n : Nat) (parts : Array (Nat × Operand)) (ho : o.op = .buildSlice T n parts) (vs : Array (Nat × Value)) (hp : (parts.map fun (i, x) => (i, a.eval x)) = vs)
    {v : Value} {w' : World} (hr : (Instr.buildSlice T n vs).run P w = .ok v w')
    (h : wpList P ops Q rest (a.put o.dst v) w') : wpList P ops Q (o :: rest) a w :=
  wpList_plain hgd fun _ hK => by
    unfold Oper.wp execOp
    simp only [ho, Sem.run_bind, Sem.run_pure, Result.andThen_ok, hp, hr]
    exact hK _ _ h
end
theorem sliceHash {g : Nat} (W : World) : (Instr.sliceAt 23 (.pointer (some ⟨g, 0, none⟩)) none none none).run Tryd.prog W = .ok (.slice (some ⟨g, 0, none⟩) 32 32) W := by
  obtain ⟨i, hi0, hz, hs, hb⟩ := info_parts info5
  simp [Instr.sliceAt, run_underlying Tryd.underlying23, sizeOf, typeInfo, hi0, hs, go_sem]
theorem build1S (A : Option Addr) (n c : Nat) (W : World) : (Instr.buildSlice 98 1 #[(0, .slice A n c)]).run Tryd.prog W = .ok (.slice (some ⟨W.heap.size, 0, none⟩) 1 1) (W.alloc (.cells #[.slice A n c] 40)) := by kernel_rfl
theorem byteInfo8 : ByteInfo Tryd.prog 5 := info5
end Go.Proofs.YthabgfghogdkcaaDoor
namespace Go.Proofs.YthabgfghogdkcaaDoor
open Go.RowKit
theorem loop_data (bs : ByteArray) : ∀ (n i : Nat) (r : List UInt8), bs.size - i = n → ByteArray.toList.loop bs i r = r.reverse ++ bs.data.toList.drop i := by
  intro n
  induction n with
  | zero =>
    intro i r h
    rw [ByteArray.toList.loop, if_neg (by omega), List.drop_eq_nil_of_le (by simp; omega)]
    simp
  | succ n ih =>
    intro i r h
    have hi : i < bs.data.toList.length := by simp; omega
    rw [ByteArray.toList.loop, if_pos (by omega), ih (i + 1) _ (by omega), List.reverse_cons, List.append_assoc, List.drop_eq_getElem_cons hi]
    congr 1
    have hi2 : i < bs.data.size := by simpa using hi
    simp only [ByteArray.get!, Array.getElem_toList, List.nil_append, List.cons_append, List.reverse_nil, List.cons.injEq, and_true]
    exact getElem!_pos bs.data i hi2
theorem toList_data (bs : ByteArray) : bs.toList = bs.data.toList := by
  unfold ByteArray.toList
  rw [loop_data bs bs.size 0 [] (by omega)]
  simp
def abc8 : List UInt8 := (textOf (Sha.sum [97, 98, 99])).take 8
theorem k_abc : (textOf (Sha.sum [97, 98, 99])).take 8 = [98, 97, 55, 56, 49, 54, 98, 102] := by decide +kernel
theorem k_nil : (textOf (Sha.sum [])).take 8 = [101, 51, 98, 48, 99, 52, 52, 50] := by decide +kernel
theorem k_twice : (textOf (Sha.sum (Sha.sum []))).take 8 = [53, 100, 102, 54, 101, 48, 101, 50] := by decide +kernel
theorem hC_zeros : hC (Sha.zeros 32) = hC [] := by
  unfold hC
  simp [Sha.zeros]
end Go.Proofs.YthabgfghogdkcaaDoor
namespace Go.Proofs.YthabgfghogdkcaaDoor
open Go.RowKit
section
variable {P : Program} {ops : Array Oper} {rest : List Oper} {o : Oper} {a : Act} {w : World} {Q : Exit → Act → World → Prop}
theorem wpList_on (hw : Region.wanted o (yielded ops a.tmps) = true) (h : ∀ K : Act → World → Prop, (∀ a w, wpList P ops Q rest a w → K a w) → o.wp P a w K Q) : wpList P ops Q (o :: rest) a w :=
  wpList_step fun K hK => by
    rw [if_pos hw]
    exact h K hK
theorem wpList_loadG (hw : Region.wanted o (yielded ops a.tmps) = true) (T : TypeId) (x : Operand) (ho : o.op = .load T x) (vx : Value) (hx : a.eval x = vx) {v : Value} {w' : World} (hr : (Instr.loadAt T vx).run P w = .ok v w')
    (h : wpList P ops Q rest (a.put o.dst v) w') : wpList P ops Q (o :: rest) a w :=
  wpList_on hw fun _ hK => by
    unfold Oper.wp execOp
    simp only [ho, Sem.run_bind, Sem.run_pure, Result.andThen_ok, hx, hr]
    exact hK _ _ h
theorem wpList_buildG (hw : Region.wanted o (yielded ops a.tmps) = true) (T : TypeId) (parts : Array (Nat × Operand)) (ho : o.op = .build T parts) (vs : Array (Nat × Value)) (hp : (parts.map fun (i, x) => (i, a.eval x)) = vs)
    {v : Value} {w' : World} (hr : (Instr.build T vs).run P w = .ok v w')
    (h : wpList P ops Q rest (a.put o.dst v) w') : wpList P ops Q (o :: rest) a w :=
  wpList_on hw fun _ hK => by
    unfold Oper.wp execOp
    simp only [ho, Sem.run_bind, Sem.run_pure, Result.andThen_ok, hp, hr]
    exact hK _ _ h
theorem wpList_binG (hw : Region.wanted o (yielded ops a.tmps) = true) (b : BinOp) (T T2 : TypeId) (x y : Operand) (ho : o.op = .binOp b T x y T2) (vx vy : Value) (hx : a.eval x = vx) (hy : a.eval y = vy) (hg : (eqGuard b T x y vx vy).run P w = .ok () w)
    {v : Value} {w' : World} (hr : (binOp b T vx vy).run P w = .ok v w')
    (h : wpList P ops Q rest (a.put o.dst v) w') : wpList P ops Q (o :: rest) a w :=
  wpList_on hw fun _ hK => by
    unfold Oper.wp execOp
    simp only [ho, Sem.run_bind, Sem.run_pure, Result.andThen_ok, hx, hy, hg, hr]
    exact hK _ _ h
end
theorem eqlHH (w : World) : (binOp .eql 23 (.agg (hC [])) (.agg (hC []))).run Tryd.prog w = .ok (.bool true) w := by kernel_rfl
theorem eqgHH (x y : Operand) (w : World) : (eqGuard .eql 23 x y (.agg (hC [])) (.agg (hC []))).run Tryd.prog w = .ok () w := by kernel_rfl
theorem sum_at (A : Option Addr) (n cap : Nat) (l h : List UInt8) (t : TypeId) (w : World) (hr : Rd w A l) (hn : l.length = n) (hc : n ≤ cap) (hm : cap ≤ 9223372036854775807) (hmax : n ≤ 1000000000) (hh : Sha.sum l = h) :
    Calls Tryd.prog 51 #[.slice (some ⟨w.heap.size, 0, none⟩) 1 1] (w.alloc (.cells #[.slice A n cap] t)) fun e w' => e = .returned (.agg (hC h)) ∧ Below (w.heap.size + 1) (w.alloc (.cells #[.slice A n cap] t)) w' := by
  have := shaSum_any (some ⟨w.heap.size, 0, none⟩) 1 1 [l] (w.alloc (.cells #[.slice A n cap] t)) rfl (by decide) (by simp only [List.flatten_cons, List.flatten_nil, List.append_nil]; omega) (RdsC.one t rfl hr hn hc hm)
  simp only [List.flatten_cons, List.flatten_nil, List.append_nil, hh, World.size_alloc] at this
  exact this
theorem sum_none (h : List UInt8) (w : World) (hh : Sha.sum [] = h) :
    Calls Tryd.prog 51 #[.slice none 0 0] w fun e w' => e = .returned (.agg (hC h)) ∧ Below w.heap.size w w' := by
  have := shaSum_any none 0 0 [] w rfl (by decide) (by simp) (RdsC.nil _ _)
  simp only [List.flatten_nil, hh] at this
  exact this
theorem newH {w w2 : World} {B : Nat} (hb : Below B w w2) (hB : B ≤ w2.heap.size) : ∃ w', (Instr.storeAt 23 (.pointer (some ⟨w2.heap.size, 0, none⟩)) (.agg (hC []))).run Tryd.prog (w2.alloc (.cells (hC []) 23)) = .ok () w' ∧ Row w' w2.heap.size 23 (hC []) ∧ Below B w w' ∧ Below w2.heap.size w2 w' := by
  obtain ⟨w', h1, h2, h3⟩ := storeH (a := []) (b := []) (by simp) (by simp) (Row.new w2 23 (hC []))
  refine ⟨w', h1, h2, (hb.alloc hB _).grown h3 (by simp only [World.size_alloc]; omega) (fun j e => by cases e; exact hB), (below_new w2 _).grown h3 (by simp only [World.size_alloc]; omega) (fun j e => by cases e; exact Nat.le_refl _)⟩
end Go.Proofs.YthabgfghogdkcaaDoor
