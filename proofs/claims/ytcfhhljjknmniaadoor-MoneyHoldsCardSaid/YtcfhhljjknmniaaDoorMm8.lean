/- money: what is known of Go's library's own variables, which the card ties to the program's text. -/
import Derived.Test.YtcfhhljjknmniaaDoorMm7
import Derived.Test.YtcfhhljjknmniaaDoorRows
import Derived.MakeChecks
import Derived.LaidLaws
import Derived.Lib.LaidTab
set_option linter.unusedVariables false
set_option linter.unusedSimpArgs false
namespace Go.Proofs.YtcfhhljjknmniaaDoor
open Go.RowKit Go.ChangeShapes Go.WideShapes Go.ChangeAt
/-- The table of powers of ten, and that the two errors are errors. -/
structure Tabs (w : World) : Prop where
  pow : Lib.TabIs Tryd.prog w "internal/strconv.uint64pow10" .u64 Lib.pow10Tab
  syn : ∃ tp p, w.var? Tryd.prog "strconv.ErrSyntax" = some #[.iface tp p]
  rng : ∃ tp p, w.var? Tryd.prog "strconv.ErrRange" = some #[.iface tp p]
theorem var_below {P : Program} {n : String} {cs : Array Value} {w w' : World} (h : w.var? P n = some cs) (hb : Below w.heap.size w w') : w'.var? P n = some cs := by
  unfold World.var? at h ⊢
  cases hg : P.globalNamed n with
  | none => rw [hg] at h; cases h
  | some g =>
    rw [hg] at h
    simp only [Option.bind_some] at h ⊢
    have hlt : g < w.heap.size := by
      rcases Nat.lt_or_ge g w.heap.size with h' | h'
      · exact h'
      · rw [Array.getElem?_eq_none h'] at h; cases h
    rw [hb.block g hlt]
    exact h
theorem Tabs.later {w w' : World} (h : Tabs w) (hL : Later w w') : Tabs w' :=
  ⟨var_below h.pow hL, by obtain ⟨a, b, k⟩ := h.syn; exact ⟨a, b, var_below k hL⟩, by obtain ⟨a, b, k⟩ := h.rng; exact ⟨a, b, var_below k hL⟩⟩
theorem laidVars_at {P : Program} {w : World} : ∀ {laid : List (String × DataW Unit)} {ps : List MemPlace}, DataW.LaidVars P w laid ps → ∀ (i : Nat) (n : String) (d : DataW Unit), laid[i]? = some (n, d) →
    ∃ g t cs fuel p, P.globalNamed n = some g ∧ (P.globals[g]?).map (·.type) = some t ∧ w.var? P n = some cs ∧ DataW.trod (fun _ => ()) P w 0 (fun _ => true) false fuel t cs.toList = some (d, p)
  | [], _, _, i, n, d, e => by simp at e
  | (n0, d0) :: r, ps, h, i, n, d, e => by
    obtain ⟨g, t, cs, fuel, p, q, h1, h2, h3, h4, h5, h6⟩ := h
    match i, e with
    | 0, e => cases e; exact ⟨g, t, cs, fuel, p, h1, h2, h3, h4⟩
    | i + 1, e => exact laidVars_at h5 i n d (by simpa using e)
theorem errVar_of {P : Program} {w : World} {laid : List (String × DataW Unit)} {ps : List MemPlace} (h : DataW.LaidVars P w laid ps) (i : Nat) {n : String} (hi : ∃ nm d, laid[i]? = some (n, .iface nm d)) {g0 : Nat} {t0 : TypeId} {ms : Array (String × TypeId)}
    (hg : P.globalNamed n = some g0) (hty : (P.globals[g0]?).map (·.type) = some t0) (ht : P.underlying t0 = some (.interface ms)) : ∃ tp p, w.var? P n = some #[.iface tp p] := by
  obtain ⟨nm, d, hi⟩ := hi
  obtain ⟨g, t, cs, fuel, p, h1, h2, h3, h4⟩ := laidVars_at h i n _ hi
  obtain rfl := Option.some.inj (hg.symm.trans h1)
  obtain rfl := Option.some.inj (hty.symm.trans h2)
  obtain ⟨_, u, v, hcs, _⟩ := iface_of_trod ht h4
  refine ⟨u, v, ?_⟩
  rw [h3]
  congr 1
  apply Array.ext'
  exact hcs
theorem tab_of {P : Program} {w : World} {laid : List (String × DataW Unit)} {ps : List MemPlace} (h : DataW.LaidVars P w laid ps) (i : Nat) {n : String} {k : IntKind} {zs : List Int} (hi : laid[i]? = some (n, Lib.tabData k zs)) {g0 : Nat} {t0 e : TypeId} {m : Nat}
    (hg : P.globalNamed n = some g0) (hty : (P.globals[g0]?).map (·.type) = some t0) (ht : P.underlying t0 = some (.array m e)) (he : P.underlying e = some (.int k)) (hce : P.cellsOf e = 1) (hct : P.cellsOf t0 = m) : Lib.TabIs P w n k zs := by
  obtain ⟨g, t, cs, fuel, p, h1, h2, h3, h4⟩ := laidVars_at h i n _ hi
  obtain rfl := Option.some.inj (hg.symm.trans h1)
  obtain rfl := Option.some.inj (hty.symm.trans h2)
  unfold Lib.TabIs
  rw [h3, ← Lib.cells_of_tab ht he hce hct h4]
theorem tabs_of {W : World} (h : laidMetH Tryd.prog Rows.moneyMidsRow.laid W) : Tabs W := by
  rw [MakeChecks.laidMetH_plain _ _ _ (by kernel_rfl)] at h
  obtain ⟨ps, h, _⟩ := h
  exact ⟨tab_of h 2 (by kernel_rfl) (show Tryd.prog.globalNamed "internal/strconv.uint64pow10" = some 2 by kernel_rfl) (by kernel_rfl) Tryd.underlying132 Tryd.underlying61 (by kernel_rfl) (by kernel_rfl),
    errVar_of h 5 ⟨_, _, rfl⟩ (show Tryd.prog.globalNamed "strconv.ErrSyntax" = some 4 by kernel_rfl) (by kernel_rfl) Tryd.underlying68,
    errVar_of h 4 ⟨_, _, rfl⟩ (show Tryd.prog.globalNamed "strconv.ErrRange" = some 5 by kernel_rfl) (by kernel_rfl) Tryd.underlying68⟩
end Go.Proofs.YtcfhhljjknmniaaDoor
