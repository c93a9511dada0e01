/- Walks, secrets: small functions; the table that the card ties. -/
import Derived.Test.YthabgfghogdkcaaDoorScMath
import Derived.Lib.LaidTab
import Derived.LaidLaws
import Derived.MakeChecks
import Derived.Shelf.Spec.TrailingZeros
set_option linter.unusedVariables false
set_option linter.unusedSimpArgs false
namespace Go.Proofs.YthabgfghogdkcaaDoor
open Go.RowKit Go.ChangeShapes Go.WideShapes Go.ChangeAt
def tabZ : List Int := Lib.deBruijn64tab.map fun n : Nat => (n : Int)
/-- Go's table behind TrailingZeros64. -/
structure Tabs (w : World) : Prop where
  tab : Lib.TabIs Tryd.prog w "math/bits.deBruijn64tab" .u8 tabZ
theorem var_below {P : Program} {n : String} {cs : Array Value} {w w' : World} (h : w.var? P n = some cs) (hb : Below w.heap.size w w') : w'.var? P n = some cs := by
  unfold World.var? at h ⊢
  cases hg : P.globalNamed n with
  | none => rw [hg] at h; cases h
  | some g =>
    rw [hg] at h
    simp only [Option.bind_some] at h ⊢
    have hlt : g < w.heap.size := by
      rcases Nat.lt_or_ge g w.heap.size with h' | h'
      · exact h'
      · rw [Array.getElem?_eq_none h'] at h; cases h
    rw [hb.block g hlt]
    exact h
theorem Tabs.later {w w' : World} (h : Tabs w) (hL : Later w w') : Tabs w' := ⟨var_below h.tab hL⟩
theorem Tabs.cells {w : World} (h : Tabs w) (j : Nat) (hj : j < 64) : w.cell? ⟨0, j, none⟩ = some (.int .u8 (Lib.deBruijn64tab.getD j 0 : Nat)) := by
  have h1 := h.tab
  unfold Lib.TabIs World.var? at h1
  rw [show Tryd.prog.globalNamed "math/bits.deBruijn64tab" = some 0 by kernel_rfl] at h1
  simp only [Option.bind_some] at h1
  cases hh : w.heap[0]? with
  | none => rw [hh] at h1; cases h1
  | some o =>
    rw [hh] at h1
    cases o with
    | cells cs t fr =>
      simp only [Option.bind_some, Option.some.injEq] at h1
      unfold World.cell?
      simp only [Option.isSome_none, Bool.false_eq_true, if_false, hh]
      subst h1
      have hl : j < Lib.deBruijn64tab.length := hj
      simp [tabZ, List.getElem?_eq_getElem hl, List.getD]
    | _ => simp at h1
theorem laidVars_at {P : Program} {w : World} : ∀ {laid : List (String × DataW Unit)} {ps : List MemPlace}, DataW.LaidVars P w laid ps → ∀ (i : Nat) (n : String) (d : DataW Unit), laid[i]? = some (n, d) →
    ∃ g t cs fuel p, P.globalNamed n = some g ∧ (P.globals[g]?).map (·.type) = some t ∧ w.var? P n = some cs ∧ DataW.trod (fun _ => ()) P w 0 (fun _ => true) false fuel t cs.toList = some (d, p)
  | [], _, _, i, n, d, e => by simp at e
  | (n0, d0) :: r, ps, h, i, n, d, e => by
    obtain ⟨g, t, cs, fuel, p, q, h1, h2, h3, h4, h5, h6⟩ := h
    match i, e with
    | 0, e => cases e; exact ⟨g, t, cs, fuel, p, h1, h2, h3, h4⟩
    | i + 1, e => exact laidVars_at h5 i n d (by simpa using e)
theorem tab_of {P : Program} {w : World} {laid : List (String × DataW Unit)} {ps : List MemPlace} (h : DataW.LaidVars P w laid ps) (i : Nat) {n : String} {k : IntKind} {zs : List Int} (hi : laid[i]? = some (n, Lib.tabData k zs)) {g0 : Nat} {t0 e : TypeId} {m : Nat}
    (hg : P.globalNamed n = some g0) (hty : (P.globals[g0]?).map (·.type) = some t0) (ht : P.underlying t0 = some (.array m e)) (he : P.underlying e = some (.int k)) (hce : P.cellsOf e = 1) (hct : P.cellsOf t0 = m) : Lib.TabIs P w n k zs := by
  obtain ⟨g, t, cs, fuel, p, h1, h2, h3, h4⟩ := laidVars_at h i n _ hi
  obtain rfl := Option.some.inj (hg.symm.trans h1)
  obtain rfl := Option.some.inj (hty.symm.trans h2)
  unfold Lib.TabIs
  rw [h3, ← Lib.cells_of_tab ht he hce hct h4]
theorem tabs_of {W : World} (h : laidMetH Tryd.prog Rows.secretsDownRow.laid W) : Tabs W := by
  rw [MakeChecks.laidMetH_plain _ _ _ (by kernel_rfl)] at h
  obtain ⟨ps, h, _⟩ := h
  exact ⟨tab_of h 0 (by kernel_rfl) (show Tryd.prog.globalNamed "math/bits.deBruijn64tab" = some 0 by kernel_rfl) (by kernel_rfl) Tryd.underlying94 Tryd.underlying5 (by kernel_rfl) (by kernel_rfl)⟩
/- the functions -/
def inB (n most : Int) : Bool := decide (0 ≤ n) && decide (n ≤ most)
theorem inB_yes {n most : Int} (h0 : 0 ≤ n) (h1 : n ≤ most) : inB n most = true := by simp [inB, h0, h1]
theorem inB_no {n most : Int} (h : n < 0 ∨ most < n) : inB n most = false := by
  unfold inB
  rcases h with h | h
  · rw [decide_eq_false (by omega)]; rfl
  · rw [decide_eq_false (p := n ≤ most) (by omega)]; simp
theorem in_any (n most : Int) (w : World) : Calls Tryd.prog 23 #[.int .i64 n, .int .i64 most] w fun e w' => w' = w ∧ e = .returned (.bool (inB n most)) := by
  by_cases h0 : 0 ≤ n
  · have h0' : decide (0 ≤ n) = true := decide_eq_true h0
    have hb : inB n most = decide (n ≤ most) := by unfold inB; rw [h0', Bool.true_and]
    go_enter Tryd.func23, Tryd.ntmps23
    go_wp2
    go_ret
    exact ⟨rfl, by first | rfl | (rw [hb]; rfl)⟩
  · have h0' : decide (0 ≤ n) = false := decide_eq_false h0
    have hb : inB n most = false := by unfold inB; rw [h0', Bool.false_and]
    go_enter Tryd.func23, Tryd.ntmps23
    go_wp2
    go_ret
    exact ⟨rfl, by first | rfl | (rw [hb]; rfl)⟩
theorem in64_any (n most : Int) (w : World) : Calls Tryd.prog 24 #[.int .i64 n, .int .i64 most] w fun e w' => w' = w ∧ e = .returned (.bool (inB n most)) := by
  by_cases h0 : 0 ≤ n
  · have h0' : decide (0 ≤ n) = true := decide_eq_true h0
    have hb : inB n most = decide (n ≤ most) := by unfold inB; rw [h0', Bool.true_and]
    go_enter Tryd.func24, Tryd.ntmps24
    go_wp2
    go_ret
    exact ⟨rfl, by first | rfl | (rw [hb]; rfl)⟩
  · have h0' : decide (0 ≤ n) = false := decide_eq_false h0
    have hb : inB n most = false := by unfold inB; rw [h0', Bool.false_and]
    go_enter Tryd.func24, Tryd.ntmps24
    go_wp2
    go_ret
    exact ⟨rfl, by first | rfl | (rw [hb]; rfl)⟩
theorem tz_core (x k idx : Nat) (w : World) (hx0 : ((x : Int) == 0) = false)
    (key : IntKind.u64.wrap (bits BinOp.and IntKind.u64 (x : Int) (IntKind.u64.wrap (-(x : Int))) * 285870213051353865) / 288230376151711744 = (idx : Int))
    (hi : idx < 64) (hk : k < 64) (hcell : w.cell? ⟨0, idx, none⟩ = some (.int .u8 k)) :
    Calls Tryd.prog 56 #[.int .u64 x] w fun e w' => w' = w ∧ e = .returned (.int .i64 k) := by
  go_enter Tryd.func56, Tryd.ntmps56
  go_wp2_with (simp only [key])
  go_ret
  exact ⟨rfl, rfl⟩
theorem tz_zero (w : World) : Calls Tryd.prog 56 #[.int .u64 0] w fun e w' => w' = w ∧ e = .returned (.int .i64 64) := by
  go_enter Tryd.func56, Tryd.ntmps56
  go_wp2
  go_ret
  exact ⟨rfl, rfl⟩
theorem tz_any (x : Nat) (hx : x < 18446744073709551616) (w : World) (hT : Tabs w) :
    Calls Tryd.prog 56 #[.int .u64 x] w fun e w' => w' = w ∧ e = .returned (.int .i64 (Lib.ctz 64 x)) := by
  by_cases hx0 : x = 0
  · subst hx0
    exact tz_zero w
  · obtain ⟨hlow, hk⟩ := Lib.lowest_bit 64 x hx0 hx
    obtain ⟨hi, htab⟩ := Lib.deBruijn64_at _ hk
    have hcell := hT.cells _ hi
    rw [htab] at hcell
    exact tz_core x _ _ w (by simp; omega) (tz64_key x _ hx hx0 hlow) hi hk hcell
theorem ret_i64 {a b : Int} (h : a = b) : Ending.returned (.int .i64 a) = .returned (.int .i64 b) := by rw [h]
theorem place_any (x : Nat) (hx : x < 9223372036854775808) (w : World) (hT : Tabs w) :
    Calls Tryd.prog 30 #[.int .i64 (x : Int)] w fun e w' => w' = w ∧ e = .returned (.int .i64 (Sec.place x : Int)) := by
  have htz := tz_any x (by omega) w hT
  have hp := Sec.place_ctz x
  generalize Lib.ctz 64 x = k at *
  generalize Sec.place x = p at *
  have hw : IntKind.u64.wrap (x : Int) = (x : Int) := by rw [IntKind.wrap_u64]; omega
  have hk : (0 : Int) ≤ k := by omega
  have HP := Lib.hid hp
  clear hT hp
  go_enter Tryd.func30, Tryd.ntmps30
  go_wp2_with (first
    | (go_at_call 56; refine htz.mono ?_; clear htz; rintro e w1 ⟨rfl, rfl⟩)
    | fail)
  all_goals
    go_ret
    have := HP.out
    exact ⟨rfl, ret_i64 (by omega)⟩
theorem smust_ok (n : Int) (w : World) : Calls Tryd.prog 39 #[.bool true, .int .i64 n] w fun e w' => w' = w ∧ e = .returned (.tuple #[]) := by
  go_enter Tryd.func39, Tryd.ntmps39
  go_wp2
  go_end0
  exact ⟨rfl, rfl⟩
def gaveUp (n : Int) : List PanicEntry := [{ v := .iface 24 (.int .i64 n), recovered := false }]
theorem smust_no (n : Int) (w : World) : Calls Tryd.prog 39 #[.bool false, .int .i64 n] w fun e w' => w' = w ∧ e = .panicked (gaveUp n) := by
  go_enter Tryd.func39, Tryd.ntmps39
  go_wp2
  exact ⟨rfl, rfl, rfl⟩
theorem smust_any (b : Bool) (n : Int) (w : World) : Calls Tryd.prog 39 #[.bool b, .int .i64 n] w fun e w' => w' = w ∧ e = if b then .returned (.tuple #[]) else .panicked (gaveUp n) := by
  cases b
  · exact smust_no n w
  · exact smust_ok n w
end Go.Proofs.YthabgfghogdkcaaDoor
