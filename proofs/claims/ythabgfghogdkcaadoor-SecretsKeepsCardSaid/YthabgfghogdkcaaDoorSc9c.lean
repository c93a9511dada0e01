/- Secrets: the state of Read. -/
import Derived.Test.YthabgfghogdkcaaDoorSc9b
set_option linter.unusedVariables false
set_option linter.unusedSimpArgs false
namespace Go.Proofs.YthabgfghogdkcaaDoor
open Go.RowKit
/-- The blocks of a Read: results, reader, keep, the count that last holds. -/
structure RdPl (w : World) (q g4 gk ql : Nat) (A : Option Addr) (L : List UInt8) : Prop where
  a1 : w.heap.size ≤ q
  a2 : q + 1 < g4
  a3 : g4 < gk
  a4 : gk < ql
  a5 : ∀ b o, A = some ⟨b, o, none⟩ → L ≠ [] → b < gk
structure RdSt (w W : World) (q g4 gk ql : Nat) (A : Option Addr) (L : List UInt8) (N k r : Nat) : Prop where
  k2 : Row W q 31 #[.pointer (some ⟨gk, 0, none⟩)]
  k3 : Row W (q + 1) 24 #[.int .i64 0]
  kk : Row W gk 60 (kC (N : Int) (Sec.ixK N k) (Sec.scK L k) true)
  kl : Row W ql 2 #[.int .i64 (N : Int)]
  hd : Rd W A L
  rd : ∃ D c, Row W g4 106 (rdC D (L.drop (32 * r)).length c true false) ∧ (L.drop (32 * r)).length ≤ c ∧ c ≤ 9223372036854775807 ∧ ∀ X, Rd X A L → Rd X D (L.drop (32 * r))
  b : Below w.heap.size w W
section
variable {w W W' : World} {q g4 gk ql : Nat} {A : Option Addr} {L : List UInt8} {N k r : Nat}
theorem RdSt.later (h : RdSt w W q g4 gk ql A L N k r) (hb : Below W.heap.size W W') : RdSt w W' q g4 gk ql A L N k r := by
  obtain ⟨D, c, h1, h2⟩ := h.rd
  exact ⟨h.k2.belowAll hb, h.k3.belowAll hb, h.kk.belowAll hb, h.kl.belowAll hb, h.hd.below hb, ⟨D, c, h1.belowAll hb, h2⟩, h.b.trans (hb.mono h.b.size)⟩
theorem RdSt.put (h : RdSt w W q g4 gk ql A L N k r) (hp : RdPl w q g4 gk ql A L) {k' : Nat} (hg : W.grownBy W' (some gk)) (hr : Row W' gk 60 (kC (N : Int) (Sec.ixK N k') (Sec.scK L k') true)) : RdSt w W' q g4 gk ql A L N k' r := by
  obtain ⟨D, c, h1, h2⟩ := h.rd
  obtain ⟨a1, a2, a3, a4, a5⟩ := hp
  refine ⟨h.k2.grown hg (fun e => ?_), h.k3.grown hg (fun e => ?_), hr, h.kl.grown hg (fun e => ?_), h.hd.grown hg (fun b o e hl h' => ?_), ⟨D, c, h1.grown hg (fun e => ?_), h2⟩, h.b.grown hg h.b.size (fun j e => ?_)⟩
  · injection e with e; omega
  · injection e with e; omega
  · injection e with e; omega
  · injection h' with h'; have := a5 b o e hl; omega
  · injection e with e; omega
  · cases e; omega
theorem RdSt.read (h : RdSt w W q g4 gk ql A L N k r) (hp : RdPl w q g4 gk ql A L) (hs : Same (fun k => k < W.heap.size ∧ k ≠ g4) W W')
    (hm : ∃ D c, Row W' g4 106 (rdC D (L.drop (32 * (r + 1))).length c true false) ∧ (L.drop (32 * (r + 1))).length ≤ c ∧ c ≤ 9223372036854775807 ∧ ∀ X, Rd X A L → Rd X D (L.drop (32 * (r + 1)))) : RdSt w W' q g4 gk ql A L N k (r + 1) := by
  obtain ⟨a1, a2, a3, a4, a5⟩ := hp
  obtain ⟨D0, c0, h1, _⟩ := h.rd
  exact ⟨h.k2.same hs ⟨h.k2.lt, by omega⟩, h.k3.same hs ⟨h.k3.lt, by omega⟩, h.kk.same hs ⟨h.kk.lt, by omega⟩, h.kl.same hs ⟨h.kl.lt, by omega⟩, h.hd.same hs (fun b o e hl => ⟨h.hd.lt e hl, rdC_ne h1 hl (e ▸ h.hd)⟩), hm, below_same h.b hs h.b.size (by omega)⟩
theorem RdSt.isKeep (h : RdSt w W q g4 gk ql A L N k r) (hk : k ≤ Sec.width N) (hL : 32 * k ≤ L.length) : IsKeep W gk (N : Int) (Sec.ixK N k) (Sec.scK L k) := ⟨h.kk, fun p => Sec.scK_len L k p hL, fun p => Sec.ixK_lt N k p hk⟩
theorem RdSt.isRd (h : RdSt w W q g4 gk ql A L N k r) : IsRd W g4 (L.drop (32 * r)) false := by
  obtain ⟨D, c, h1, h2, h3, h4⟩ := h.rd
  exact ⟨D, c, h1, h2, h3, h4 W h.hd⟩
end
end Go.Proofs.YthabgfghogdkcaaDoor
