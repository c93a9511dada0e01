/- Walks: the law SecretsKeeps: its small parts. -/
import Derived.Test.YthabgfghogdkcaaDoorSd9
set_option linter.unusedVariables false
set_option linter.unusedSimpArgs false
namespace Go.Proofs.YthabgfghogdkcaaDoor
open Go.RowKit
section
variable {P : Program} {W : World}
theorem eqgStr {op : BinOp} {t : TypeId} {x y : Operand} {i j : ByteArray} : (eqGuard op t x y (.string i) (.string j)).run P W = .ok () W := by cases op <;> rfl
theorem neqStrMe (t : TypeId) (i : ByteArray) : (binOp .neq t (.string i) (.string i)).run P W = .ok (.bool false) W := by go_simp
end
theorem strOf {w : World} {A : Option Addr} {n c : Nat} {l : List UInt8} (hr : Rd w A l) (hn : l.length = n) : Sem.run Tryd.prog (convert 40 9 (.slice A n c)) w = .ok (.string ⟨l.toArray⟩) w :=
  run_string_rd w _ _ _ A n c l Tryd.underlying40 Tryd.underlying5 Tryd.underlying9 hn hr
theorem eqlNo (a b : Int) (h : (a == b) = false) (W : World) : (binOp .eql 3 (.int .i64 a) (.int .i64 b)).run Tryd.prog W = .ok (.bool false) W := by
  have h' : (binOp .eql 3 (.int .i64 a) (.int .i64 b)).run Tryd.prog W = .ok (.bool (a == b)) W := by kernel_rfl
  rw [h', h]
theorem shrI {x k : Nat} (hk : k ≤ 64) {W : World} : (binOp .shr 3 (.int .i64 (x : Int)) (.int .i64 (k : Int))).run Tryd.prog W = .ok (.int .i64 ((x / 2 ^ k : Nat) : Int)) W := by
  have h' : (binOp .shr 3 (.int .i64 (x : Int)) (.int .i64 (k : Int))).run Tryd.prog W = (Op.shift .shr .i64 (x : Int) .i64 (k : Int)).run Tryd.prog W := by kernel_rfl
  have hm : min (k : Int).toNat IntKind.i64.bits = k := by show min (k : Int).toNat 64 = k; omega
  rw [h']
  unfold Op.shift
  rw [if_neg (by omega)]
  simp only [hm, Sem.run_pure]
  rw [fdiv_pow]
theorem eqFnNil (f : FuncId) (ps cs : Array Value) (W : World) : (binOp .eql 45 (.func (.func f) ps cs) .nilFunc).run Tryd.prog W = .ok (.bool false) W := by kernel_rfl
theorem eqgFnNil (x y : Operand) (f : FuncId) (ps cs : Array Value) (W : World) : (eqGuard .eql 45 x y (.func (.func f) ps cs) .nilFunc).run Tryd.prog W = .ok () W := by kernel_rfl
def Pr.rdn (l : List UInt8) : Pr := ⟨fun v W => ∃ A c, v = .slice A l.length c ∧ Rd W A l, fun _ _ _ ⟨A, c, e, h⟩ hL => ⟨A, c, e, h.later hL⟩⟩
theorem raw_rd {v : Value} {w : World} {B : Nat} {l : List UInt8} (h : Own 5 w B v l) : ∃ A c, v = .slice A l.length c ∧ Rd w A l := by
  obtain ⟨A, c, e, _, _, hr⟩ := h.slice
  exact ⟨A, c, e, hr⟩
theorem seed_back (l : List UInt8) (hl : l.length = 32) (c : Nat) (hc : c ≤ 200) (A : Option Addr) (ca : Nat) (w : World) (hr : Rd w A (Sec.raw c (Sec.keptIx c) (Sec.keptSc l c))) :
    Calls Tryd.prog 18 #[.slice A (Sec.raw c (Sec.keptIx c) (Sec.keptSc l c)).length ca] w fun e w' => Below w.heap.size w w' ∧ ∃ g, w.heap.size ≤ g ∧ e = .returned (.tuple #[.pointer (some ⟨g, 0, none⟩), .int .i64 0]) ∧ SeedKeep w' g l c := by
  have hlen : (Sec.raw c (Sec.keptIx c) (Sec.keptSc l c)).length ≤ 140737488355328 := by
    unfold Sec.raw
    rw [List.length_append]
    have h1 := Wr.bytes_le c
    have h2 := Sec.items_len (c := c) (ix := Sec.keptIx c) (Sec.keptSc_len l hl c) 32
    omega
  refine (sread_any A _ ca _ w rfl hlen hr).mono ?_
  rintro e w' ⟨hb, (⟨hno, _⟩ | ⟨_, g, hg, he, hk⟩)⟩
  · rw [Sec.seed_ok l hl c hc] at hno; cases hno
  · obtain ⟨h1, h2, _⟩ := Sec.seed_read l hl c (by omega)
    rw [h1, h2, Sec.seed_ix c (by omega), Sec.seed_sc l hl c (by omega)] at hk
    exact ⟨hb, g, hg, he, hk⟩
set_option maxRecDepth 100000 in
set_option maxHeartbeats 4000000 in
theorem secretsKeeps_bad (l : List UInt8) (n : Int) (A : Option Addr) (m c : Nat) (w : World) (hl : l.length = 32) (hT : Tabs w) (hbad : n < 0 ∨ (0 ≤ n ∧ 200 < n) ∨ (0 ≤ n ∧ n ≤ 200 ∧ 1200 < m)) :
    Calls Tryd.prog 6 #[.agg (hC l), .int .i64 n, .slice A m c] w fun e w' => e = .returned (.bool true) ∧ Below w.heap.size w w' := by
  have hbx := boxH l hl
  have hb1 := below_new w (.cells (hC l) 23)
  have hwk := works_yes (w.alloc (.cells (hC l) 23)) (hT.later hb1)
  have HW := Lib.hid hwk
  clear hwk hT
  rcases hbad with h | ⟨h, h2⟩ | ⟨h, h2, h3⟩
  · have h1 : decide (n < 0) = true := decide_eq_true h
    go_enter Tryd.func6, Tryd.ntmps6
    go_wp2_with (first
      | (with_reducible refine wpList_box rfl 23 (.tmp 0) rfl (.agg (hC l)) rfl (hbx _) ?_)
      | (go_at_call 9; refine HW.out.mono ?_; rintro e w2 ⟨rfl, hb2⟩)
      | fail)
    go_ret
    exact ⟨rfl, hb1.trans (hb2.mono hb1.size)⟩
  · have h1 : decide (n < 0) = false := decide_eq_false (by omega)
    have h3 : decide (200 < n) = true := decide_eq_true h2
    go_enter Tryd.func6, Tryd.ntmps6
    go_wp2_with (first
      | (with_reducible refine wpList_box rfl 23 (.tmp 0) rfl (.agg (hC l)) rfl (hbx _) ?_)
      | (go_at_call 9; refine HW.out.mono ?_; rintro e w2 ⟨rfl, hb2⟩)
      | fail)
    go_ret
    exact ⟨rfl, hb1.trans (hb2.mono hb1.size)⟩
  · have h1 : decide (n < 0) = false := decide_eq_false (by omega)
    have h4 : decide (200 < n) = false := decide_eq_false (by omega)
    have h5 : decide ((1200 : Int) < (m : Int)) = true := decide_eq_true (by omega)
    have h6 : decide (1200 < m) = true := decide_eq_true h3
    go_enter Tryd.func6, Tryd.ntmps6
    go_wp2_with (first
      | (with_reducible refine wpList_box rfl 23 (.tmp 0) rfl (.agg (hC l)) rfl (hbx _) ?_)
      | (go_at_call 9; refine HW.out.mono ?_; rintro e w2 ⟨rfl, hb2⟩)
      | fail)
    go_ret
    exact ⟨rfl, hb1.trans (hb2.mono hb1.size)⟩
end Go.Proofs.YthabgfghogdkcaaDoor
