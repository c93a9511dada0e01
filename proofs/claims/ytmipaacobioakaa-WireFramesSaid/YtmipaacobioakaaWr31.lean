/- Any call asked of both readers; lists of calls. -/
import Derived.Test.YtmipaacobioakaaWr30
import Derived.Deep.SlicePairs
import Derived.Lib.SmallJoins
set_option linter.unusedVariables false
set_option linter.unusedSimpArgs false
namespace Go.Proofs.Ytmipaacobioakaa
open Go.RowKit Go.ChangeShapes Go.WideShapes Go.ChangeAt
/-- What is left behind a call, as both readers have it. -/
def Wr.askR (what most : Int) (l : List UInt8) (bad : Bool) : List UInt8 × Bool :=
  if what = 0 then (Wr.numR l bad most).1 else if what = 1 then (Wr.truthR l bad).1 else if what = 2 then (Wr.hashR l bad).1 else if what = 3 then (Wr.textR l bad (Wr.clamp most)).1 else (Wr.endR l bad).1
theorem ask_any (g : Nat) (A : Option Addr) (n c : Nat) (l : List UInt8) (bad : Bool) (what most : Int) (w : World) (hn : l.length = n) (hc : n ≤ c) (hcm : c ≤ 9223372036854775807) (hnm : n ≤ 9223372036854775000) (hr : Rd w A l) (hw : IsRd w g l bad) :
    Calls Try.prog 16 #[.pointer (some ⟨g, 0, none⟩), .agg (rfV A n c bad), .agg #[.int .i64 what, .int .i64 most]] w (Asked w g A l (Wr.askR what most l bad).1 (Wr.askR what most l bad).2) := by
  unfold Wr.askR
  by_cases h0 : what = 0
  · subst h0; exact ask0_any g A n c l bad most w hn hc hcm hnm hr hw
  rw [if_neg h0]
  by_cases h1 : what = 1
  · subst h1; exact ask1_any g A n c l bad most w hn hc hcm hnm hr hw
  rw [if_neg h1]
  by_cases h2 : what = 2
  · subst h2; exact ask2_any g A n c l bad most w hn hc hcm hnm hr hw
  rw [if_neg h2]
  by_cases h3 : what = 3
  · subst h3; exact ask3_any g A n c l bad most w hn hc hcm hnm hr hw
  rw [if_neg h3]
  exact ask4_any g A n c l bad what most w ⟨h0, h1, h2, h3⟩ hn hc hcm hnm hr hw
def Wr.suffix_len (l l' : List UInt8) : Prop := l'.length ≤ l.length
theorem Wr.askR_len (what most : Int) (l : List UInt8) (bad : Bool) : (Wr.askR what most l bad).1.length ≤ l.length := by
  unfold Wr.askR
  split
  · unfold Wr.numR; repeat' split
    all_goals simp
  · split
    · unfold Wr.truthR; repeat' split
      all_goals simp
    · split
      · unfold Wr.hashR; repeat' split
        all_goals simp
      · split
        · unfold Wr.textR Wr.textRest; repeat' split
          all_goals simp
          all_goals omega
        · unfold Wr.endR; repeat' split
          all_goals simp
/-- A slice's cells read as these calls. -/
def Asks (w : World) (A : Option Addr) (xs : List (Int × Int)) : Prop :=
  xs ≠ [] → ∃ b o, A = some ⟨b, o, none⟩ ∧ ∀ i (h : i < xs.length), w.rangeAt b (o + i * 2) [.int .i64 xs[i].1, .int .i64 xs[i].2]
theorem Asks.nil (w : World) (A : Option Addr) : Asks w A [] := fun h => absurd rfl h
theorem Asks.below {w w' : World} {A : Option Addr} {xs : List (Int × Int)} (h : Asks w A xs) (hb : Below w.heap.size w w') : Asks w' A xs := fun hl => by
  obtain ⟨b, o, e, hc⟩ := h hl
  have h0 : 0 < xs.length := List.length_pos_iff.2 hl
  have hbl : b < w.heap.size := block_lt_of_cell (hc 0 h0 0 _ rfl)
  exact ⟨b, o, e, fun i hi j v hv => (World.cell?_of_block (w := w) (a := ⟨b, o + i * 2 + j, none⟩) (hb.block b hbl)).trans (hc i hi j v hv)⟩
theorem infoAsk : (Try.prog.info? 40).map (·.size) = some 2 := by kernel_rfl
theorem loadAsk {w : World} {b o : Nat} {x y : Int} (hr : w.rangeAt b o [.int .i64 x, .int .i64 y]) : (Instr.loadAt 40 (.pointer (some ⟨b, o, none⟩))).run Try.prog w = .ok (.agg #[.int .i64 x, .int .i64 y]) w :=
  run_loadAt_mid (P := Try.prog) w b o 40 [.int .i64 x, .int .i64 y] _ hr Try.underlying40 rfl infoAsk
theorem idxAsk {b o n c i : Nat} {W : World} (h : i < n) : (Instr.indexAt 42 (.slice (some ⟨b, o, none⟩) n c) (.int .i64 (i : Int))).run Try.prog W = .ok (.pointer (some ⟨b, o + i * 2, none⟩)) W := by
  have h1 : (i : Int) < (n : Int) := by omega
  have h2 : (0 : Int) ≤ (i : Int) := by omega
  have h3 := infoAsk
  go_simp
structure InAsks (w : World) (A : Option Addr) (n c : Nat) (xs : List (Int × Int)) : Prop where
  len : xs.length = n
  cap : n ≤ c
  most : c ≤ maxLen
  rd : Asks w A xs
theorem in_asks {H : Type} {enc : TypeId × Value → H} {P : Program} {w : World} {t e : TypeId} {held : Bool} {fuel len cap : Nat} {A : Option Addr} {x : DataW H × List MemPlace} {f0 f1 : Field} (ht : P.underlying t = some (.slice e)) (he : P.underlying e = some (.struct #[f0, f1])) (ce : P.cellsOf e = 2)
    (o0 : f0.offset = 0) (o1 : f1.offset = 1) (c0 : P.cellsOf f0.type = 1) (c1 : P.cellsOf f1.type = 1) (u0 : P.underlying f0.type = some (.int .i64)) (u1 : P.underlying f1.type = some (.int .i64))
    (h : DataW.trod enc P w 0 (fun _ => true) held fuel t [.slice A len cap] = some x) : ∃ xs, InAsks w A len cap xs := by
  rcases Deep.open_slice_pairs ht he ce o0 o1 c0 c1 h with ⟨hcs, _⟩ | ⟨ad, l, c, m, k, V0, V1, D0, D1, P0, P1, hcs, _, hl, hm, hmm, _, hr⟩
  · injection hcs with h1
    injection h1 with h1 h2 h3
    subst h1 h2 h3
    exact ⟨[], rfl, Nat.le_refl _, Nat.zero_le _, Asks.nil _ _⟩
  · injection hcs with h1
    injection h1 with h1 h2 h3
    subst h1 h2 h3
    have hmc : m = cap := by rw [hmm]; rfl
    have each : ∀ i, ∃ s : Int × Int, i < len → V0 i = .int .i64 s.1 ∧ V1 i = .int .i64 s.2 := fun i => by
      by_cases hi : i < len
      · obtain ⟨_, _, h3, h4⟩ := hr i (by omega)
        obtain ⟨y, e1, _, _⟩ := DataW.trod_int u0 h3
        obtain ⟨z, e2, _, _⟩ := DataW.trod_int u1 h4
        injection e1 with e1
        injection e2 with e2
        exact ⟨(y, z), fun _ => ⟨e1, e2⟩⟩
      · exact ⟨(0, 0), fun h => absurd h hi⟩
    obtain ⟨f, hf⟩ := Classical.axiomOfChoice each
    refine ⟨(List.range len).map f, by simp, hl, hm, fun hne => ?_⟩
    have h0 : 0 < len := by
      rcases Nat.eq_zero_or_pos len with rfl | hp
      · exact absurd rfl hne
      · exact hp
    obtain ⟨b, o, rfl⟩ : ∃ b o, ad = ⟨b, o, none⟩ := ⟨_, _, addr_none (show w.cell? ad = some _ from (hr 0 (by omega)).1)⟩
    refine ⟨b, o, rfl, fun i hi => ?_⟩
    have hi' : i < len := by simpa using hi
    obtain ⟨h1, h2, _, _⟩ := hr i (by omega)
    obtain ⟨e1, e2⟩ := hf i hi'
    rw [addr_add] at h1 h2
    rw [e1] at h1
    rw [e2] at h2
    simp only [List.getElem_map, List.getElem_range]
    intro j v hv
    rcases j with _ | _ | j
    · cases hv; exact h1
    · cases hv; rw [Nat.add_assoc]; exact h2
    · simp at hv
end Go.Proofs.Ytmipaacobioakaa
