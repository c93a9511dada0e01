/- HmacHolds: what is out of its bounds; the walk. -/
import Derived.Test.YtbjclmfhmdalkaaHm19
set_option linter.unusedVariables false
set_option linter.unusedSimpArgs false
namespace Go.Proofs.Ytbjclmfhmdalkaa
open Go.RowKit Go.ChangeShapes Go.WideShapes Go.ChangeAt
set_option maxRecDepth 100000 in
set_option maxHeartbeats 4000000 in
theorem hmacHolds_out (A : Option Addr) (n ca : Nat) (B : Option Addr) (m cb : Nat) (ls : List (List UInt8)) (name : List UInt8) (o1 o2 : Int) (a b : List UInt8 × Nat) (nz : Int) (w : World)
    (hls : ls.length = m) (hm : m ≤ 9223372036854775807) (hrs : RdsC w B ls) (hout : ¬ fits ls 15 ∨ 200 < n ∨ 100 < name.length ∨ o1 < 0 ∨ o2 < o1 ∨ 300 < o2 ∨ 100 < a.1.length ∨ 100 < b.1.length ∨ nz < 0 ∨ 64 < nz) :
    Calls Try.prog 6 #[.slice A n ca, .slice B m cb, .string ⟨name.toArray⟩, .int .i64 o1, .int .i64 o2, .agg (stepC a), .agg (stepC b), .int .i64 nz] w fun e w' => e = .returned (.bool true) ∧ Below w.heap.size w w' := by
  have k13 := (Row.new w 42 (stepC a)).alloc (.cells (stepC b) 42)
  have k14 := Row.new (w.alloc (.cells (stepC a) 42)) 42 (stepC b)
  have hL1 := ((Later.refl w).alloc (.cells (stepC a) 42)).alloc (.cells (stepC b) 42)
  have HLS := Lib.hid hls
  clear hls
  go_enter Try.func6, Try.ntmps6
  go_upto_region 1 with (first
    | (refine wpList_box rfl 42 (.tmp 5) rfl (.agg (stepC a)) rfl (boxStep a _) ?_)
    | (refine wpList_box rfl 42 (.tmp 6) rfl (.agg (stepC b)) rfl (boxStep b _) ?_)
    | fail)
  rw [World.size_alloc] at k14
  obtain ⟨g, hg⟩ : ∃ q, q = w.heap.size := ⟨_, rfl⟩
  rw [← hg] at k13 k14 ⊢
  clear hg
  generalize (w.alloc (.cells (stepC a) 42)).alloc (.cells (stepC b) 42) = w1 at *
  have hfew := few_any B m cb ls 15 w1 HLS.out (by decide) hm (hrs.below hL1)
  by_cases hf : fits ls 15
  rotate_left
  · go_wp2_with (first
      | (go_at_call 9; refine hfew.mono ?_; clear hfew; rintro e w2 ⟨⟨hyes, _⟩ | ⟨_, rfl⟩, hb2⟩; exact absurd hyes hf)
      | (go_at_call 10; refine (works2_yes _).mono ?_; rintro e w3 ⟨rfl, hb3⟩)
      | fail)
    go_ret
    exact ⟨rfl, (hL1.step hb2).step hb3⟩
  have HF := Lib.hid hf
  go_upto_region 2 with (first
    | (go_at_call 9; refine hfew.mono ?_; clear hfew; rintro e w2 ⟨⟨_, v, rfl, hown⟩ | ⟨hno, _⟩, hb2⟩; rotate_left; exact absurd HF.out hno)
    | fail)
  have hL2 : Later w1 w2 := hb2
  have hLw2 := hL1.step hL2
  have k13 := k13.later hL2
  have k14 := k14.later hL2
  have hc13 : w2.cell? ⟨g, 0, none⟩ = some (.string ⟨a.1.toArray⟩) := (k13.cell 0).trans rfl
  have hc14 : w2.cell? ⟨g + 1, 0, none⟩ = some (.string ⟨b.1.toArray⟩) := (k14.cell 0).trans rfl
  have hout := hout.resolve_left (fun h => h hf)
  clear k13 k14 hown hrs hL2 hL1 hb2 HLS HF hm hf
  by_cases h0 : 200 < n
  · have hd0 : decide (200 < n) = true := decide_eq_true h0
    have hd0' : decide ((200 : Int) < (n : Int)) = true := decide_eq_true (by omega)
    clear hout
    go_wp2_with (first
      | (go_at_call 10; refine (works2_yes _).mono ?_; rintro e w3 ⟨rfl, hb3⟩)
      | fail)
    go_ret
    exact ⟨rfl, hLw2.step hb3⟩
  have hd0 : decide (200 < n) = false := decide_eq_false h0
  have hd0' : decide ((200 : Int) < (n : Int)) = false := decide_eq_false (by omega)
  have hout := hout.resolve_left h0
  by_cases h1 : 100 < name.length
  · have hd1 : decide (100 < name.length) = true := decide_eq_true h1
    have hd1' : decide ((100 : Int) < (name.length : Int)) = true := decide_eq_true (by omega)
    clear hout
    go_wp2_with (first
      | (go_at_call 10; refine (works2_yes _).mono ?_; rintro e w3 ⟨rfl, hb3⟩)
      | fail)
    go_ret
    exact ⟨rfl, hLw2.step hb3⟩
  have hd1 : decide (100 < name.length) = false := decide_eq_false h1
  have hd1' : decide ((100 : Int) < (name.length : Int)) = false := decide_eq_false (by omega)
  have hout := hout.resolve_left h1
  by_cases h2 : o1 < 0
  · have hd2 : decide (o1 < 0) = true := decide_eq_true h2
    clear hout
    go_wp2_with (first
      | (go_at_call 10; refine (works2_yes _).mono ?_; rintro e w3 ⟨rfl, hb3⟩)
      | fail)
    go_ret
    exact ⟨rfl, hLw2.step hb3⟩
  have hd2 : decide (o1 < 0) = false := decide_eq_false h2
  have hout := hout.resolve_left h2
  by_cases h3 : o2 < o1
  · have hd3 : decide (o2 < o1) = true := decide_eq_true h3
    clear hout
    go_wp2_with (first
      | (go_at_call 10; refine (works2_yes _).mono ?_; rintro e w3 ⟨rfl, hb3⟩)
      | fail)
    go_ret
    exact ⟨rfl, hLw2.step hb3⟩
  have hd3 : decide (o2 < o1) = false := decide_eq_false h3
  have hout := hout.resolve_left h3
  by_cases h4 : 300 < o2
  · have hd4 : decide (300 < o2) = true := decide_eq_true h4
    clear hout
    go_wp2_with (first
      | (go_at_call 10; refine (works2_yes _).mono ?_; rintro e w3 ⟨rfl, hb3⟩)
      | fail)
    go_ret
    exact ⟨rfl, hLw2.step hb3⟩
  have hd4 : decide (300 < o2) = false := decide_eq_false h4
  have hout := hout.resolve_left h4
  by_cases h5 : 100 < a.1.length
  · have hd5 : decide (100 < a.1.length) = true := decide_eq_true h5
    have hd5' : decide ((100 : Int) < (a.1.length : Int)) = true := decide_eq_true (by omega)
    clear hout
    go_wp2_with (first
      | (go_at_call 10; refine (works2_yes _).mono ?_; rintro e w3 ⟨rfl, hb3⟩)
      | fail)
    go_ret
    exact ⟨rfl, hLw2.step hb3⟩
  have hd5 : decide (100 < a.1.length) = false := decide_eq_false h5
  have hd5' : decide ((100 : Int) < (a.1.length : Int)) = false := decide_eq_false (by omega)
  have hout := hout.resolve_left h5
  by_cases h6 : 100 < b.1.length
  · have hd6 : decide (100 < b.1.length) = true := decide_eq_true h6
    have hd6' : decide ((100 : Int) < (b.1.length : Int)) = true := decide_eq_true (by omega)
    clear hout
    go_wp2_with (first
      | (go_at_call 10; refine (works2_yes _).mono ?_; rintro e w3 ⟨rfl, hb3⟩)
      | fail)
    go_ret
    exact ⟨rfl, hLw2.step hb3⟩
  have hd6 : decide (100 < b.1.length) = false := decide_eq_false h6
  have hd6' : decide ((100 : Int) < (b.1.length : Int)) = false := decide_eq_false (by omega)
  have hout := hout.resolve_left h6
  by_cases h7 : nz < 0
  · have hd7 : decide (nz < 0) = true := decide_eq_true h7
    clear hout
    go_wp2_with (first
      | (go_at_call 10; refine (works2_yes _).mono ?_; rintro e w3 ⟨rfl, hb3⟩)
      | fail)
    go_ret
    exact ⟨rfl, hLw2.step hb3⟩
  have hd7 : decide (nz < 0) = false := decide_eq_false h7
  have hout := hout.resolve_left h7
  by_cases h8 : 64 < nz
  · have hd8 : decide (64 < nz) = true := decide_eq_true h8
    clear hout
    go_wp2_with (first
      | (go_at_call 10; refine (works2_yes _).mono ?_; rintro e w3 ⟨rfl, hb3⟩)
      | fail)
    go_ret
    exact ⟨rfl, hLw2.step hb3⟩
  have hd8 : decide (64 < nz) = false := decide_eq_false h8
  exact absurd hout h8
theorem hmacHolds_walk (A : Option Addr) (n ca : Nat) (key : List UInt8) (B : Option Addr) (m cb : Nat) (ls : List (List UInt8)) (s : ByteArray) (q2 : s.size ≤ maxLen) (o1 : Int) (q3 : (Lit.int .i64 o1).wf = true) (o2 : Int) (q4 : (Lit.int .i64 o2).wf = true) (a : List UInt8 × Nat) (ha2 : a.2 < 18446744073709551616) (b : List UInt8 × Nat) (hb2 : b.2 < 18446744073709551616) (nz : Int) (q7 : (Lit.int .i64 nz).wf = true) (w : World) (hi : InBytes w A n ca key) (hj : InRowsC w B m cb ls) :
    Calls Try.prog 6 #[.slice A n ca, .slice B m cb, .string s, .int .i64 o1, .int .i64 o2, .agg (stepC a), .agg (stepC b), .int .i64 nz] w fun e w' => e = .returned (.bool true) ∧ Below w.heap.size w w' := by
  obtain ⟨name, rfl⟩ : ∃ q : List UInt8, s = ⟨q.toArray⟩ := ⟨s.data.toList, by cases s; simp⟩
  have h1 := hi.cap
  have h2 := hi.most
  have h3 := hj.cap
  have h4 := hj.most
  unfold maxLen at h2 h4
  by_cases hout : ¬ fits ls 15 ∨ 200 < n ∨ 100 < name.length ∨ o1 < 0 ∨ o2 < o1 ∨ 300 < o2 ∨ 100 < a.1.length ∨ 100 < b.1.length ∨ nz < 0 ∨ 64 < nz
  · exact hmacHolds_out A n ca B m cb ls name o1 o2 a b nz w hj.len (by omega) hj.rd hout
  · simp only [not_or, Classical.not_not, Nat.not_lt, Int.not_lt] at hout
    obtain ⟨hf, g1, g2, g3, g4, g5, g6, g7, g8, g9⟩ := hout
    obtain ⟨p1, rfl⟩ : ∃ p : Nat, o1 = p := ⟨o1.toNat, by omega⟩
    obtain ⟨p2, rfl⟩ : ∃ p : Nat, o2 = p := ⟨o2.toNat, by omega⟩
    obtain ⟨p3, rfl⟩ : ∃ p : Nat, nz = p := ⟨nz.toNat, by omega⟩
    exact hmacHolds_main A n ca key B m cb ls name p1 p2 a b p3 w hi.len h1 (by omega) hi.rd hj.len (by omega) hj.rd g1 hf g2 (by omega) (by omega) g6 g7 ha2 hb2 (by omega)
theorem open_step {H : Type} {enc : TypeId × Value → H} {P : Program} {w : World} {r : Reach} {b0 base : Nat} {sp : Nat → Bool} {held : Bool} {t : TypeId} {f0 f1 : Field} {v : Value} {d : DataW H} {ps : List MemPlace} (hs : P.underlying t = some (.struct #[f0, f1])) (hone : Deep.oneCellFields P #[f0, f1] = true) (hC : P.cellsOf t = 2)
    (u0 : P.underlying f0.type = some .string) (u1 : P.underlying f1.type = some (.int .u64)) (hv : Value.okWide P w r b0 t v) (h : DataW.Trod enc P w base sp held t v d ps) : ∃ s : List UInt8 × Nat, s.2 < 18446744073709551616 ∧ v = .agg (stepC s) := by
  obtain ⟨v0, v1, y0, y1, n, rfl, _, _, h0, h1⟩ := Joins.open_agg2 hs hone hC hv h
  obtain ⟨s, e1, _, _⟩ := DataW.trod_string u0 h0
  obtain ⟨z, e2, _, hz⟩ := DataW.trod_int u1 h1
  injection e1 with e1
  injection e2 with e2
  have hz' : 0 ≤ z ∧ z < 18446744073709551616 := by
    simp [Lit.wf, IntKind.min, IntKind.max, IntKind.signed, IntKind.bits] at hz
    omega
  refine ⟨(s.data.toList, z.toNat), by show z.toNat < _; omega, ?_⟩
  subst e1 e2
  show Value.agg #[.string s, .int .u64 z] = Value.agg #[.string ⟨s.data.toList.toArray⟩, .int .u64 ((z.toNat : Nat) : Int)]
  rw [show ((z.toNat : Nat) : Int) = z by omega]
end Go.Proofs.Ytbjclmfhmdalkaa
