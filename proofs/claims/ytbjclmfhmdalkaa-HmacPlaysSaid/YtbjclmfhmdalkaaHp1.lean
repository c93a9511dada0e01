/- Calls of two tags that come in; tags that are none. -/
import Derived.Test.YtbjclmfhmdalkaaOpenC
set_option linter.unusedVariables false
set_option linter.unusedSimpArgs false
namespace Go.Proofs.Ytbjclmfhmdalkaa
open Go.RowKit Go.ChangeShapes Go.WideShapes Go.ChangeAt
structure PActL where
  what : Int
  two : Bool
  bytes : List UInt8
abbrev pactC (x : PActL) (A : Option Addr) (c : Nat) : List Value := [.int .i64 x.what, .bool x.two, .slice A x.bytes.length c]
structure PActOk (w : World) (x : PActL) (A : Option Addr) (c : Nat) : Prop where
  n1 : x.bytes.length ≤ c
  m1 : c ≤ maxLen
  r1 : Rd w A x.bytes
/-- A slice's cells read as these calls. -/
def PActs (w : World) (A : Option Addr) (xs : List PActL) : Prop :=
  xs ≠ [] → ∃ b o, A = some ⟨b, o, none⟩ ∧ ∀ i (h : i < xs.length), ∃ A1 c1, w.rangeAt b (o + i * 3) (pactC xs[i] A1 c1) ∧ PActOk w xs[i] A1 c1
structure InPActs (w : World) (A : Option Addr) (n c : Nat) (xs : List PActL) : Prop where
  len : xs.length = n
  cap : n ≤ c
  most : c ≤ maxLen
  rd : PActs w A xs
section
variable {H : Type} {enc : TypeId × Value → H} {P : Program} {w : World} {held : Bool}
theorem in_bytesV {t e : TypeId} {fuel : Nat} {v : Value} {x : DataW H × List MemPlace} (ht : P.underlying t = some (.slice e)) (he : P.underlying e = some (.int .u8)) (hc : P.cellsOf e = 1)
    (h : DataW.trod enc P w 0 (fun _ => true) held fuel t [v] = some x) : ∃ (l : List UInt8) (A : Option Addr) (c : Nat), v = .slice A l.length c ∧ l.length ≤ c ∧ c ≤ maxLen ∧ Rd w A l := by
  have hv : ∃ A n c, v = .slice A n c := by
    rcases open_ints ht he hc h with ⟨hcs, _⟩ | ⟨ad, len, cap, zs, hcs, _⟩
    · injection hcs with h1
      exact ⟨_, _, _, h1⟩
    · injection hcs with h1
      exact ⟨_, _, _, h1⟩
  obtain ⟨A, n, c, rfl⟩ := hv
  obtain ⟨l, hl⟩ := in_bytes ht he hc h
  exact ⟨l, A, c, by rw [hl.len], by rw [hl.len]; exact hl.cap, hl.most, hl.rd⟩
theorem in_pacts {t e : TypeId} {fuel len cap : Nat} {A : Option Addr} {x : DataW H × List MemPlace} {f0 f1 f2 : Field} {e2 : TypeId} (ht : P.underlying t = some (.slice e)) (he : P.underlying e = some (.struct #[f0, f1, f2])) (ce : P.cellsOf e = 3)
    (o0 : f0.offset = 0) (o1 : f1.offset = 1) (o2 : f2.offset = 2) (c0 : P.cellsOf f0.type = 1) (c1 : P.cellsOf f1.type = 1) (c2 : P.cellsOf f2.type = 1)
    (u0 : P.underlying f0.type = some (.int .i64)) (u1 : P.underlying f1.type = some .bool) (u2 : P.underlying f2.type = some (.slice e2)) (v2 : P.underlying e2 = some (.int .u8)) (d2 : P.cellsOf e2 = 1)
    (h : DataW.trod enc P w 0 (fun _ => true) held fuel t [.slice A len cap] = some x) : ∃ xs, InPActs w A len cap xs := by
  rcases Deep.open_slice ht h with ⟨hcs, _⟩ | ⟨ad, len, cap, m, n, D, Pl, hcs, _, hl, hm, hmm, _, hx⟩
  · injection hcs with h1
    injection h1 with h1 h2 h3
    subst h1 h2 h3
    exact ⟨[], rfl, Nat.le_refl _, Nat.zero_le _, fun h => absurd rfl h⟩
  · injection hcs with h1
    injection h1 with h1 h2 h3
    subst h1 h2 h3
    have hlm : len ≤ m := by rw [hmm]; simpa using hl
    have each : ∀ i, ∃ s : PActL, i < len → ∃ A1 c1, (∀ j v, (pactC s A1 c1)[j]? = some v → w.cell? ((ad.add (i * 3)).add j) = some v) ∧ PActOk w s A1 c1 := fun i => by
      by_cases hi : i < len
      · obtain ⟨cs', h1, h2⟩ := hx i (by omega)
        rw [ce] at h1
        obtain ⟨_, hlen, hcell⟩ := World.cells?_some h1
        obtain ⟨xs, k, _, _, _, hxl, hf⟩ := DataW.trod_struct he h2
        match xs, hxl, cs', hlen with
        | [y0, y1, y2], _, [w0, w1, w2], _ =>
          have g0 := hf 0 f0 rfl
          have g1 := hf 1 f1 rfl
          have g2 := hf 2 f2 rfl
          simp [o0, c0] at g0
          simp [o1, c1] at g1
          simp [o2, c2] at g2
          obtain ⟨z, hz, _, _⟩ := DataW.trod_int u0 g0
          injection hz with hz
          obtain ⟨bb, hb, _⟩ := DataW.trod_bool u1 g1
          injection hb with hb
          obtain ⟨l2, A2, cc2, rfl, b1, b2, b3⟩ := in_bytesV u2 v2 d2 g2
          refine ⟨⟨z, bb, l2⟩, fun _ => ⟨A2, cc2, fun j v hv => ?_, ⟨b1, b2, b3⟩⟩⟩
          have hj : j < 3 := (List.getElem?_eq_some_iff.1 hv).1
          rw [hcell j hj, ← hv, hz, hb]
      · exact ⟨⟨0, false, []⟩, fun h => absurd h hi⟩
    obtain ⟨f, hf⟩ := Classical.axiomOfChoice each
    refine ⟨(List.range len).map f, by simp, hl, hm, fun hne => ?_⟩
    have h0 : 0 < len := by
      rcases Nat.eq_zero_or_pos len with rfl | hp
      · exact absurd rfl hne
      · exact hp
    obtain ⟨b, o, rfl⟩ : ∃ b o, ad = ⟨b, o, none⟩ := by
      obtain ⟨A1, c1, hc, _⟩ := hf 0 h0
      have := addr_none (hc 0 _ rfl)
      obtain ⟨b', o', k'⟩ := ad
      refine ⟨b', o', ?_⟩
      unfold Addr.add at this
      simp at this
      congr
    refine ⟨b, o, rfl, fun i hi => ?_⟩
    have hi' : i < len := by simpa using hi
    obtain ⟨A1, c1, hc, hok⟩ := hf i hi'
    refine ⟨A1, c1, fun j v hv => ?_, by simpa using hok⟩
    simp only [List.getElem_map, List.getElem_range] at hv
    have h1 := hc j v hv
    rw [addr_add, addr_add] at h1
    exact h1
end
theorem Calls.post {P : Program} {f : FuncId} {args : Array Value} {w : World} {R : Ending → World → Prop} (h : ∀ Φ : Ending → World → Prop, Hid (∀ e w', R e w' → Φ e w') → Calls P f args w Φ) : Calls P f args w R := h R (Lib.hid fun _ _ h => h)
/-- A pointer behind which there is no tag. -/
def NoMac (w : World) (pv : Option Addr) : Prop := ∀ W, Later w W → Calls Try.prog 34 #[.pointer pv] W fun e w' => w' = W ∧ e = .returned (.bool true)
theorem NoMac.later {w w' : World} {pv : Option Addr} (h : NoMac w pv) (hL : Later w w') : NoMac w' pv := fun W k => h W (hL.step k)
theorem noMac_nil (w : World) : NoMac w none := fun W _ => by
  go_enter Try.func34, Try.ntmps34
  go_wp2
  go_ret
  exact ⟨rfl, rfl⟩
theorem noMac_zero {w : World} {g : Nat} {t : TypeId} {cs : Array Value} (hr : Row w g t cs) (h0 : cs[0]? = some (.pointer none)) : NoMac w (some ⟨g, 0, none⟩) := fun W hL => by
  have c0 : W.cell? ⟨g, 0, none⟩ = some (.pointer none) := ((hr.later hL).cell 0).trans h0
  go_enter Try.func34, Try.ntmps34
  go_wp2
  go_ret
  exact ⟨rfl, rfl⟩
theorem wMac_none (pv : Option Addr) (v : Value) (w : World) (hno : NoMac w pv) : Calls Try.prog 19 #[.pointer pv, v] w fun e w' => w' = w ∧ e = .returned (.int .i64 1) := by
  have hn1 := hno w (Later.refl w)
  go_enter Try.func19, Try.ntmps19
  go_wp2_with (first
    | (go_at_call 34; refine hn1.mono ?_; clear hn1; rintro e w2 ⟨rfl, rfl⟩)
    | fail)
  go_ret
  exact ⟨rfl, rfl⟩
theorem copyMac_none (pv : Option Addr) (w : World) (hno : NoMac w pv) : Calls Try.prog 24 #[.pointer pv] w fun e w' => w' = w ∧ e = .returned (.pointer none) := by
  have hn1 := hno w (Later.refl w)
  go_enter Try.func24, Try.ntmps24
  go_wp2_with (first
    | (go_at_call 34; refine hn1.mono ?_; clear hn1; rintro e w2 ⟨rfl, rfl⟩)
    | fail)
  go_ret
  exact ⟨rfl, rfl⟩
theorem tagMac_none (pv : Option Addr) (w : World) (hno : NoMac w pv) : Calls Try.prog 21 #[.pointer pv] w fun e w' => Later w w' ∧ e = .returned (.agg (hC [])) := by
  have k2 := Row.new w 25 (hC [])
  have hb := (Later.refl w).alloc (.cells (hC []) 25)
  have hn1 := hno _ hb
  obtain ⟨w3, hst, k3, hg3⟩ := storeH (a := []) (b := []) (by decide) (by decide) k2
  have hL3 : Later w w3 := hb.grown hg3 hb.size (fun j e => by cases e; exact Nat.le_refl _)
  go_enter Try.func21, Try.ntmps21
  go_wp2_with (first
    | (with_reducible refine wpList_alloc rfl 25 rfl (allocH _) ?_)
    | (go_at_call 34; refine hn1.mono ?_; clear hn1; rintro e w2 ⟨rfl, rfl⟩)
    | (refine wpList_store rfl 25 (.tmp 2) (.tmp 6) rfl (.pointer (some ⟨w.heap.size, 0, none⟩)) (.agg (hC [])) rfl rfl hst ?_)
    | fail)
  exact bodyPost_ret (results_cell_row rfl _ _ w.heap.size 25 (hC []) (0, 0) _ rfl k3 Try.underlying25 rfl (by rw [hC_size _ (by decide)]; exact infoH)) rfl ⟨hL3, rfl⟩
def macZ : Array Value := (.pointer none :: List.replicate 64 (.int .u8 0)).toArray
theorem buildZ (w : World) : (zeroValue 77).run Try.prog w = .ok (.agg macZ) w := by kernel_rfl
attribute [local go_sem] buildZ
theorem boxZ (w : World) : (Instr.box 77 (.agg macZ)).run Try.prog w = .ok (.pointer (some ⟨w.heap.size, 0, none⟩)) (w.alloc (.cells macZ 77)) := run_box_row w _ _ infoM
set_option maxRecDepth 100000 in
theorem gone_any (z : Bool) (w : World) : Calls Try.prog 25 #[.bool z] w fun e w' => ∃ pv, e = .returned (.pointer pv) ∧ NoMac w' pv ∧ Later w w' := by
  refine Calls.post fun Φ HΦ => ?_
  go_enter Try.func25, Try.ntmps25
  cases z with
  | false =>
    go_wp2_with fail
    exact HΦ.out _ _ ⟨none, rfl, noMac_nil _, Later.refl _⟩
  | true =>
    go_wp2_with (first
      | (refine wpList_box rfl 77 (.tmp 4) rfl (.agg macZ) rfl (boxZ _) ?_)
      | fail)
    exact HΦ.out _ _ ⟨some ⟨w.heap.size, 0, none⟩, rfl, noMac_zero (Row.new w _ macZ) rfl, (Later.refl w).alloc _⟩
end Go.Proofs.Ytbjclmfhmdalkaa
