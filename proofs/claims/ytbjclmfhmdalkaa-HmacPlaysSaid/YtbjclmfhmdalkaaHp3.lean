/- HmacPlays: two tags under way: what is known of them, and what a call changes; single steps of the program. -/
import Derived.Test.YtbjclmfhmdalkaaHp2
set_option linter.unusedVariables false
set_option linter.unusedSimpArgs false
namespace Go.Proofs.Ytbjclmfhmdalkaa
open Go.RowKit Go.ChangeShapes Go.WideShapes Go.ChangeAt
theorem own_empty (w : World) (U : TypeId) (base : Nat) (hb : base ≤ w.heap.size) : Own U (w.alloc (.cells #[] U)) base (.slice (some ⟨w.heap.size, 0, none⟩) 0 0) [] :=
  ⟨rfl, .inr ⟨_, 0, #[], rfl, hb, heap_alloc_new w _, Nat.le_refl _, Nat.zero_le _, rfl, rfl⟩⟩
/-- Bytes in a row of one's own, whatever they are. -/
def XRow (U : TypeId) (w : World) (base : Nat) (v : Value) (n : Nat) : Prop :=
  n = 0 ∨ ∃ g cap cs, v = .slice (some ⟨g, 0, none⟩) n cap ∧ base ≤ g ∧ Row w g U cs ∧ n ≤ cs.size ∧ ∀ j, j < n → ∃ q : UInt8, cs[j]? = some (byteV q)
theorem Own.xrow {U : TypeId} {w : World} {base : Nat} {v : Value} {l : List UInt8} (h : Own U w base v l) : XRow U w base v l.length := by
  obtain ⟨h1, h2⟩ := h
  rcases h2 with ⟨rfl, hn⟩ | ⟨g, cap, cur, rfl, hb, hh, hn, hc, hs, ht⟩
  · exact .inl hn
  · refine .inr ⟨g, cap, cur, rfl, hb, hh, by omega, fun j hj => ⟨l[j], ?_⟩⟩
    have h3 : (cur.toList.take (l.length * 1))[j]? = (l.map byteV)[j]? := by rw [ht]
    rw [List.getElem?_take_of_lt (by omega), Array.getElem?_toList] at h3
    rw [h3, List.getElem?_map, List.getElem?_eq_getElem hj]; rfl
theorem XRow.below {U : TypeId} {w w' : World} {base n : Nat} {v : Value} (h : XRow U w base v n) (hb : Below w.heap.size w w') : XRow U w' base v n := by
  rcases h with h | ⟨g, cap, cs, e, h1, h2, h3⟩
  · exact .inl h
  · exact .inr ⟨g, cap, cs, e, h1, h2.belowAll hb, h3⟩
theorem Own.shape {U : TypeId} {w : World} {base : Nat} {v : Value} {l : List UInt8} (h : Own U w base v l) : ∃ A c, v = .slice A l.length c := by
  obtain ⟨A, c, e, _⟩ := h.slice
  exact ⟨A, c, e⟩
theorem later_of_sameN {r : Option Nat} {w a b : World} (h : Later w a) (hg : ∀ j, r = some j → w.heap.size ≤ j) (hs : Same (fun k => k < a.heap.size ∧ some k ≠ r) a b) : Later w b :=
  ((Same.of_below h).trans (hs.mono fun k (hk : k < w.heap.size) => ⟨by have := h.size; omega, fun e => by have := hg k e.symm; omega⟩)).below
def up {α : Type} (f : Nat → α) (n : Nat) (x : α) : Nat → α := fun i => if i = n then x else f i
theorem up_self {α : Type} (f : Nat → α) (n : Nat) (x : α) : up f n x n = x := by simp [up]
theorem up_ne {α : Type} (f : Nat → α) {n i : Nat} (x : α) (h : i ≠ n) : up f n x i = f i := by simp [up, h]
abbrev ptrV (g : Nat) : Value := .pointer (some ⟨g, 0, none⟩)
structure BytesAt (W : World) (A : Option Addr) (l : List UInt8) (c : Nat) : Prop where
  rd : Rd W A l
  cap : l.length ≤ c
  most : c ≤ maxLen
theorem BytesAt.later {w w' : World} {A : Option Addr} {l : List UInt8} {c : Nat} (h : BytesAt w A l c) (hL : Later w w') : BytesAt w' A l c := ⟨h.rd.later hL, h.cap, h.most⟩
/-- The two tags; their keys and messages as the law keeps them. -/
structure Two (w0 W : World) (gm gk ga : Nat) (g r : Nat → Nat) (K : Nat → Option Addr) (kc : Nat → Nat) (key : Nat → List UInt8) (M : Nat → Option Addr) (mc : Nat → Nat) (mm msg : Nat → List UInt8) : Prop where
  later : Later w0 W
  bm : w0.heap.size ≤ gm
  bk : w0.heap.size ≤ gk
  ba : w0.heap.size ≤ ga
  nmk : gm ≠ gk
  nma : gm ≠ ga
  nka : gk ≠ ga
  rm : Row W gm 46 #[ptrV (g 0), ptrV (g 1)]
  rk : Row W gk 56 #[.slice (K 0) (key 0).length (kc 0), .slice (K 1) (key 1).length (kc 1)]
  ra : Row W ga 56 #[.slice (M 0) (msg 0).length (mc 0), .slice (M 1) (msg 1).length (mc 1)]
  kr : ∀ i, i < 2 → BytesAt w0 (K i) (key i) (kc i)
  kl : ∀ i, i < 2 → (key i).length ≤ 200
  mac : ∀ i, i < 2 → IsMac W (g i) (r i) (key i) (mm i)
  mr : ∀ i, i < 2 → BytesAt W (M i) (msg i) (mc i)
  ng : ∀ i, i < 2 → g i ≠ gm ∧ g i ≠ gk ∧ g i ≠ ga
  nr : ∀ i, i < 2 → w0.heap.size ≤ r i ∧ r i ≠ gm ∧ r i ≠ gk ∧ r i ≠ ga
  xr : ∀ i j, i < 2 → j < 2 → i ≠ j → r i ≠ r j
  xg : ∀ i j, i < 2 → j < 2 → g i ≠ r j
  nM : ∀ i, i < 2 → ∀ b o, M i = some ⟨b, o, none⟩ → msg i ≠ [] → b ≠ gm ∧ b ≠ gk ∧ b ≠ ga ∧ ∀ j, j < 2 → b ≠ r j
section
variable {w0 W W' : World} {gm gk ga : Nat} {g r : Nat → Nat} {K : Nat → Option Addr} {kc : Nat → Nat} {key : Nat → List UInt8} {M : Nat → Option Addr} {mc : Nat → Nat} {mm msg : Nat → List UInt8}
theorem Two.step (h : Two w0 W gm gk ga g r K kc key M mc mm msg) (hL : Later W W') : Two w0 W' gm gk ga g r K kc key M mc mm msg :=
  ⟨h.later.step hL, h.bm, h.bk, h.ba, h.nmk, h.nma, h.nka, h.rm.later hL, h.rk.later hL, h.ra.later hL, h.kr, h.kl, fun i hi => (h.mac i hi).later hL, fun i hi => (h.mr i hi).later hL, h.ng, h.nr, h.xr, h.xg, h.nM⟩
theorem Two.keyAt (h : Two w0 W gm gk ga g r K kc key M mc mm msg) (i : Nat) (hi : i < 2) : BytesAt W (K i) (key i) (kc i) := (h.kr i hi).later h.later
/-- Bytes came to one of the two. -/
theorem Two.write (h : Two w0 W gm gk ga g r K kc key M mc mm msg) (n : Nat) (hn : n < 2) (hg : W.grownBy W' (some (r n))) {l' : List UInt8} (hm : IsMac W' (g n) (r n) (key n) l') : Two w0 W' gm gk ga g r K kc key M mc (up mm n l') msg := by
  obtain ⟨q1, q2, q3, q4⟩ := h.nr n hn
  refine ⟨h.later.grown hg h.later.size (fun j e => by cases e; exact q1), h.bm, h.bk, h.ba, h.nmk, h.nma, h.nka, h.rm.grown hg (fun e => q2 (Option.some.inj e).symm), h.rk.grown hg (fun e => q3 (Option.some.inj e).symm), h.ra.grown hg (fun e => q4 (Option.some.inj e).symm), h.kr, h.kl, fun i hi => ?_, fun i hi => ⟨(h.mr i hi).rd.grown hg fun b o e hne e2 => (h.nM i hi b o e hne).2.2.2 n hn (Option.some.inj e2), (h.mr i hi).cap, (h.mr i hi).most⟩, h.ng, h.nr, h.xr, h.xg, h.nM⟩
  by_cases e : i = n
  · subst e; rw [up_self]; exact hm
  · rw [up_ne _ _ e]
    exact (h.mac i hi).grown hg (fun e2 => h.xg i n hi hn (Option.some.inj e2)) (fun e2 => h.xr i n hi hn e (Option.some.inj e2))
/-- A message of the two is another one. -/
theorem Two.all (h : Two w0 W gm gk ga g r K kc key M mc mm msg) (n : Nat) (hn : n < 2) {A : Option Addr} {l : List UInt8} {c : Nat} (hb : BytesAt W A l c) (hA : ∀ b o, A = some ⟨b, o, none⟩ → l ≠ [] → b ≠ gm ∧ b ≠ gk ∧ b ≠ ga ∧ ∀ j, j < 2 → b ≠ r j) : Two w0 (W.setCell ⟨ga, n, none⟩ (.slice A l.length c)) gm gk ga g r K kc key (up M n A) (up mc n c) mm (up msg n l) := by
  have hs := Same.set W ⟨ga, n, none⟩ (.slice A l.length c)
  have hrd : ∀ {B : Option Addr} {x : List UInt8} {d : Nat}, BytesAt W B x d → (∀ b o, B = some ⟨b, o, none⟩ → x ≠ [] → b ≠ ga) → BytesAt (W.setCell ⟨ga, n, none⟩ (.slice A l.length c)) B x d := fun hx hq => ⟨hx.rd.same hs hq, hx.cap, hx.most⟩
  refine ⟨((Same.of_below h.later).trans (hs.mono fun k (hk : k < w0.heap.size) => by have := h.ba; show k ≠ ga; omega)).below, h.bm, h.bk, h.ba, h.nmk, h.nma, h.nka, h.rm.same hs h.nma, h.rk.same hs h.nka, ?_, h.kr, h.kl, fun i hi => (h.mac i hi).same hs (h.ng i hi).2.2 (h.nr i hi).2.2.2, fun i hi => ?_, h.ng, h.nr, h.xr, h.xg, fun i hi => ?_⟩
  · have := h.ra.set n (.slice A l.length c)
    match n, hn with
    | 0, _ => exact this
    | 1, _ => exact this
  · by_cases e : i = n
    · subst e; rw [up_self, up_self, up_self]; exact hrd hb fun b o e2 hne => (hA b o e2 hne).2.2.1
    · rw [up_ne _ _ e, up_ne _ _ e, up_ne _ _ e]; exact hrd (h.mr i hi) fun b o e2 hne => (h.nM i hi b o e2 hne).2.2.1
  · by_cases e : i = n
    · subst e; rw [up_self, up_self]; exact hA
    · rw [up_ne _ _ e, up_ne _ _ e]; exact h.nM i hi
/-- One of the two is a copy of the other. -/
theorem Two.copy (h : Two w0 W gm gk ga g r K kc key M mc mm msg) (n m : Nat) (hn : n < 2) (hm : m < 2) (hnm : n ≠ m) (hs : Same (fun k => k < W.heap.size ∧ k ≠ gm ∧ k ≠ gk ∧ k ≠ ga) W W') {x y : Nat} (hx : W.heap.size ≤ x) (hy : W.heap.size ≤ y) (hmac : IsMac W' x y (key m) (mm m))
    (rm : Row W' gm 46 #[ptrV (up g n x 0), ptrV (up g n x 1)]) (rk : Row W' gk 56 #[.slice (up K n (K m) 0) (up key n (key m) 0).length (up kc n (kc m) 0), .slice (up K n (K m) 1) (up key n (key m) 1).length (up kc n (kc m) 1)])
    (ra : Row W' ga 56 #[.slice (up M n (M m) 0) (up msg n (msg m) 0).length (up mc n (mc m) 0), .slice (up M n (M m) 1) (up msg n (msg m) 1).length (up mc n (mc m) 1)]) :
    Two w0 W' gm gk ga (up g n x) (up r n y) (up K n (K m)) (up kc n (kc m)) (up key n (key m)) (up M n (M m)) (up mc n (mc m)) (up mm n (mm m)) (up msg n (msg m)) := by
  have lm := h.rm.lt
  have lk := h.rk.lt
  have la := h.ra.lt
  have hgl := fun i (hi : i < 2) => (h.mac i hi).row.lt
  have hrl : ∀ i, i < 2 → r i < W.heap.size := fun i hi => (h.mac i hi).run.lt
  have hmr : ∀ i, i < 2 → BytesAt W' (M i) (msg i) (mc i) := fun i hi => ⟨(h.mr i hi).rd.same hs fun b o e hne => ⟨by
    obtain ⟨b2, o2, e2, hc⟩ := (h.mr i hi).rd hne
    rw [e] at e2
    cases e2
    exact block_lt_of_cell (hc 0 (List.length_pos_iff.2 hne)), (h.nM i hi b o e hne).1, (h.nM i hi b o e hne).2.1, (h.nM i hi b o e hne).2.2.1⟩, (h.mr i hi).cap, (h.mr i hi).most⟩
  have hbl : ∀ i, i < 2 → ∀ b o, M i = some ⟨b, o, none⟩ → msg i ≠ [] → b < W.heap.size := fun i hi b o e hne => by
    obtain ⟨b2, o2, e2, hc⟩ := (h.mr i hi).rd hne
    rw [e] at e2
    cases e2
    exact block_lt_of_cell (hc 0 (List.length_pos_iff.2 hne))
  have hM : ∀ i, i < 2 → ∀ b o, M i = some ⟨b, o, none⟩ → msg i ≠ [] → b ≠ gm ∧ b ≠ gk ∧ b ≠ ga ∧ ∀ j, j < 2 → b ≠ up r n y j := fun i hi b o e hne => by
    obtain ⟨p1, p2, p3, p4⟩ := h.nM i hi b o e hne
    refine ⟨p1, p2, p3, fun j hj => ?_⟩
    by_cases e2 : j = n
    · subst e2; rw [up_self]; have := hbl i hi b o e hne; omega
    · rw [up_ne _ _ e2]; exact p4 j hj
  have hsz := h.later.size
  refine ⟨((Same.of_below h.later).trans (hs.mono fun k (hk : k < w0.heap.size) => by have := h.bm; have := h.bk; have := h.ba; exact ⟨by omega, by omega, by omega, by omega⟩)).below, h.bm, h.bk, h.ba, h.nmk, h.nma, h.nka, rm, rk, ra, fun i hi => ?_, fun i hi => ?_, fun i hi => ?_, fun i hi => ?_, fun i hi => ?_, fun i hi => ?_, fun i j hi hj hij => ?_, fun i j hi hj => ?_, fun i hi => ?_⟩
  · by_cases e : i = n
    · subst e; rw [up_self, up_self, up_self]; exact h.kr m hm
    · rw [up_ne _ _ e, up_ne _ _ e, up_ne _ _ e]; exact h.kr i hi
  · by_cases e : i = n
    · subst e; rw [up_self]; exact h.kl m hm
    · rw [up_ne _ _ e]; exact h.kl i hi
  · by_cases e : i = n
    · subst e; rw [up_self, up_self, up_self, up_self]; exact hmac
    · rw [up_ne _ _ e, up_ne _ _ e, up_ne _ _ e, up_ne _ _ e]
      exact (h.mac i hi).same hs ⟨hgl i hi, (h.ng i hi).1, (h.ng i hi).2.1, (h.ng i hi).2.2⟩ ⟨hrl i hi, (h.nr i hi).2.1, (h.nr i hi).2.2.1, (h.nr i hi).2.2.2⟩
  · by_cases e : i = n
    · subst e; rw [up_self, up_self, up_self]; exact hmr m hm
    · rw [up_ne _ _ e, up_ne _ _ e, up_ne _ _ e]; exact hmr i hi
  · by_cases e : i = n
    · subst e; rw [up_self]; exact ⟨by omega, by omega, by omega⟩
    · rw [up_ne _ _ e]; exact h.ng i hi
  · by_cases e : i = n
    · subst e; rw [up_self]; exact ⟨by omega, by omega, by omega, by omega⟩
    · rw [up_ne _ _ e]; exact h.nr i hi
  · by_cases e : i = n
    · subst e
      rw [up_self, up_ne _ _ (fun e => hij e.symm)]
      have := hrl j hj; omega
    · rw [up_ne _ _ e]
      by_cases e2 : j = n
      · subst e2; rw [up_self]; have := hrl i hi; omega
      · rw [up_ne _ _ e2]; exact h.xr i j hi hj hij
  · by_cases e : i = n
    · subst e
      rw [up_self]
      by_cases e2 : j = i
      · subst e2; rw [up_self]; exact hmac.ne
      · rw [up_ne _ _ e2]; have := hrl j hj; omega
    · rw [up_ne _ _ e]
      by_cases e2 : j = n
      · subst e2; rw [up_self]; have := hgl i hi; omega
      · rw [up_ne _ _ e2]; exact h.xg i j hi hj
  · by_cases e : i = n
    · subst e; rw [up_self, up_self]; exact hM m hm
    · rw [up_ne _ _ e, up_ne _ _ e]; exact hM i hi
end
theorem buildM2 (a b : Nat) (W : World) : (Instr.buildSlice 55 2 #[(0, ptrV a), (1, ptrV b)]).run Try.prog W = .ok (.slice (some ⟨W.heap.size, 0, none⟩) 2 2) (W.alloc (.cells #[ptrV a, ptrV b] 46)) := by kernel_rfl
theorem buildK2 (A : Option Addr) (n c : Nat) (B : Option Addr) (m d : Nat) (W : World) : (Instr.build 56 #[(0, .slice A n c), (1, .slice B m d)]).run Try.prog W = .ok (.agg #[.slice A n c, .slice B m d]) W := by kernel_rfl
def nilK2 : Array Value := #[.slice none 0 0, .slice none 0 0]
theorem infoK2 : (Try.prog.info? 56).map (·.size) = some 2 := by kernel_rfl
theorem allocK2 (W : World) : (Instr.alloc 56 true (.tuple #[])).run Try.prog W = .ok (.pointer (some ⟨W.heap.size, 0, none⟩)) (W.alloc (.cells nilK2 56)) := by kernel_rfl
theorem storeK2 (A : Option Addr) (n c : Nat) (B : Option Addr) (m d : Nat) (W : World) : (Instr.storeAt 56 (.pointer (some ⟨W.heap.size, 0, none⟩)) (.agg #[.slice A n c, .slice B m d])).run Try.prog (W.alloc (.cells nilK2 56)) = .ok () (W.alloc (.cells #[.slice A n c, .slice B m d] 56)) :=
  run_storeAt_new W 56 nilK2 #[.slice A n c, .slice B m d] infoK2 rfl (by kernel_rfl)
theorem idxM0 (g : Nat) (W : World) : (Instr.indexAt 55 (.slice (some ⟨g, 0, none⟩) 2 2) (.int .i64 0)).run Try.prog W = .ok (.pointer (some ⟨g, 0, none⟩)) W := by go_simp
theorem idxM1 (g : Nat) (W : World) : (Instr.indexAt 55 (.slice (some ⟨g, 0, none⟩) 2 2) (.int .i64 1)).run Try.prog W = .ok (.pointer (some ⟨g, 1, none⟩)) W := by go_simp
theorem idxK0 (g : Nat) (W : World) : (Instr.indexAt 56 (.pointer (some ⟨g, 0, none⟩)) (.int .i64 0)).run Try.prog W = .ok (.pointer (some ⟨g, 0, none⟩)) W := by go_simp
theorem idxK1 (g : Nat) (W : World) : (Instr.indexAt 56 (.pointer (some ⟨g, 0, none⟩)) (.int .i64 1)).run Try.prog W = .ok (.pointer (some ⟨g, 1, none⟩)) W := by go_simp
theorem loadM {g o x : Nat} {W : World} (hc : W.cell? ⟨g, o, none⟩ = some (ptrV x)) : (Instr.loadAt 46 (.pointer (some ⟨g, o, none⟩))).run Try.prog W = .ok (ptrV x) W := by go_simp
theorem loadB {b o : Nat} {S : Option Addr} {m c : Nat} {W : World} (hc : W.cell? ⟨b, o, none⟩ = some (.slice S m c)) : (Instr.loadAt 22 (.pointer (some ⟨b, o, none⟩))).run Try.prog W = .ok (.slice S m c) W := by go_simp
theorem storeM {g o x : Nat} {v : Value} {W : World} (hc : W.cell? ⟨g, o, none⟩ = some v) (hf : W.frozen? ⟨g, o, none⟩ = false) : (Instr.storeAt 46 (.pointer (some ⟨g, o, none⟩)) (ptrV x)).run Try.prog W = .ok () (W.setCell ⟨g, o, none⟩ (ptrV x)) := by go_simp
theorem storeB {b o : Nat} {S : Option Addr} {m c : Nat} {v : Value} {W : World} (hc : W.cell? ⟨b, o, none⟩ = some v) (hf : W.frozen? ⟨b, o, none⟩ = false) : (Instr.storeAt 22 (.pointer (some ⟨b, o, none⟩)) (.slice S m c)).run Try.prog W = .ok () (W.setCell ⟨b, o, none⟩ (.slice S m c)) := by go_simp
theorem infoPAct : (Try.prog.info? 58).map (·.size) = some 3 := by kernel_rfl
theorem idxPAct {b o n c i : Nat} {W : World} (h : i < n) : (Instr.indexAt 54 (.slice (some ⟨b, o, none⟩) n c) (.int .i64 (i : Int))).run Try.prog W = .ok (.pointer (some ⟨b, o + i * 3, none⟩)) W := by
  have h1 : (i : Int) < (n : Int) := by omega
  have h2 : (0 : Int) ≤ (i : Int) := by omega
  have h3 := infoPAct
  go_simp
theorem fieldP2 {b o : Nat} {W : World} : (Instr.fieldAt 58 (.pointer (some ⟨b, o, none⟩)) 2).run Try.prog W = .ok (.pointer (some ⟨b, o + 2, none⟩)) W := by go_simp
theorem last_binOp {P : Program} {Q : Exit → Act → World → Prop} {o : Oper} {a : Act} {W : World} {b : BinOp} {t u : TypeId} {x y : Operand} {vx vy v : Value} (ho : o.op = .binOp b t x y u) (hx : a.eval x = vx) (hy : a.eval y = vy) (he : (eqGuard b t x y vx vy).run P W = .ok () W) (hr : (binOp b t vx vy).run P W = .ok v W) (h : Q .normal (a.put o.dst v) W) : LastOk P o a W Q := ⟨by
  unfold Oper.wp execOp
  simp only [ho, hx, hy, he, hr, Sem.run_bind, Sem.run_pure, Result.andThen_ok, Oper.upon]
  exact h⟩
theorem eqgI {P : Program} {W : World} {op : BinOp} {t : TypeId} {x y : Operand} {k k' : IntKind} {i j : Int} : (eqGuard op t x y (.int k i) (.int k' j)).run P W = .ok () W := by cases op <;> rfl
theorem neqI_me {P : Program} {W : World} (t : TypeId) (k : IntKind) (i : Int) : (binOp .neq t (.int k i) (.int k i)).run P W = .ok (.bool false) W := by
  have : (binOp .neq t (.int k i) (.int k i)).run P W = .ok (.bool (i != i)) W := by go_simp
  rw [this, bne_self_eq_false]
theorem eqlI_me {P : Program} {W : World} (t : TypeId) (k : IntKind) (i : Int) : (binOp .eql t (.int k i) (.int k i)).run P W = .ok (.bool true) W := by
  have : (binOp .eql t (.int k i) (.int k i)).run P W = .ok (.bool (i == i)) W := by go_simp
  rw [this, beq_self_eq_true]
theorem Same.step {p : Nat → Prop} {a W W' : World} (h : Same p a W) (hp : ∀ k, p k → k < a.heap.size) (hL : Later W W') : Same p a W' :=
  h.trans ((Same.of_below hL).mono fun k hk => Nat.lt_of_lt_of_le (hp k hk) h.size)
/-- One tag is made a copy of the other: what has run, and what is known then. -/
structure InvC (wr : World) (gm gk : Nat) (R C : Value → Array Value) (cs : List (Option Value)) (key msg : List UInt8) (u : Value) (f : Nat → Bool) (ys : Nat → Value) (W : World) : Prop where
  same : Same (fun k => k < wr.heap.size ∧ k ≠ gm ∧ k ≠ gk) wr W
  tab : Tab cs f ys
  rm : ∃ x, Row W gm 46 (R x) ∧ (f 19 = true → x = ys 9)
  rk : ∃ x, Row W gk 56 (C x) ∧ (f 21 = true → x = u)
  mac : f 9 = true → ∃ x y, ys 9 = ptrV x ∧ IsMac W x y key msg ∧ wr.heap.size ≤ x ∧ wr.heap.size ≤ y
  ord : f 19 = true → f 9 = true
section
variable {wr W W' : World} {gm gk : Nat} {R C : Value → Array Value} {cs : List (Option Value)} {key msg : List UInt8} {u : Value} {f : Nat → Bool} {ys : Nat → Value}
theorem upd_off (ys : Nat → Value) {k i : Nat} (x : Value) (h : i ≠ k) : upd ys k x i = ys i := by simp [upd, h]
theorem updB_off (f : Nat → Bool) {k i : Nat} (h : i ≠ k) : updB f k i = f i := by simp [updB, h]
theorem InvC.pure (h : InvC wr gm gk R C cs key msg u f ys W) (hL : Later W W') (k : Nat) (x : Value) (h9 : 9 ≠ k) (h19 : 19 ≠ k) (h21 : 21 ≠ k) (hx : ∀ v, cs[k]? = some (some v) → x = v) : InvC wr gm gk R C cs key msg u (updB f k) (upd ys k x) W' := by
  obtain ⟨i1, i2, ⟨a, i3, i4⟩, ⟨b, i5, i6⟩, i7, i8⟩ := h
  refine ⟨i1.step (fun k hk => hk.1) hL, i2.put k x hx, ⟨a, i3.later hL, ?_⟩, ⟨b, i5.later hL, ?_⟩, ?_, ?_⟩
  · rw [updB_off f h19, upd_off ys x h9]; exact i4
  · rw [updB_off f h21]; exact i6
  · rw [updB_off f h9, upd_off ys x h9]
    intro h
    obtain ⟨x, y, a1, a2, a3, a4⟩ := i7 h
    exact ⟨x, y, a1, a2.later hL, a3, a4⟩
  · rw [updB_off f h19, updB_off f h9]; exact i8
theorem InvC.nine (h : InvC wr gm gk R C cs key msg u f ys W) (hL : Later W W') (hf : f 9 = false) (hc : cs[9]? = some none) {x y : Nat} (hm : IsMac W' x y key msg) (hx : W.heap.size ≤ x) (hy : W.heap.size ≤ y) : InvC wr gm gk R C cs key msg u (updB f 9) (upd ys 9 (ptrV x)) W' := by
  obtain ⟨i1, i2, ⟨a, i3, i4⟩, ⟨b, i5, i6⟩, i7, i8⟩ := h
  have hs := i1.size
  have h19 : f 19 = true → False := fun h => by rw [i8 h] at hf; cases hf
  refine ⟨i1.step (fun k hk => hk.1) hL, i2.put 9 _ (fun v e => by rw [hc] at e; cases e), ⟨a, i3.later hL, ?_⟩, ⟨b, i5.later hL, ?_⟩, fun _ => ⟨x, y, by simp [upd], hm, by omega, by omega⟩, ?_⟩
  · rw [updB_off f (by decide)]; exact fun h => (h19 h).elim
  · rw [updB_off f (by decide)]; exact i6
  · rw [updB_off f (by decide)]; exact fun h => (h19 h).elim
theorem InvC.nineteen (h : InvC wr gm gk R C cs key msg u f ys W) (hf : f 9 = true) (hc : cs[19]? = some none) (n : Nat) (hgm : gm < wr.heap.size) (hmk : gm ≠ gk) (hR : ∀ x y, (R x).setIfInBounds n y = R y) : InvC wr gm gk R C cs key msg u (updB f 19) (upd ys 19 undef) (W.setCell ⟨gm, n, none⟩ (ys 9)) := by
  obtain ⟨i1, i2, ⟨a, i3, i4⟩, ⟨b, i5, i6⟩, i7, i8⟩ := h
  have hs := Same.set W ⟨gm, n, none⟩ (ys 9)
  have hs2 := i1.size
  refine ⟨i1.trans (hs.mono fun k hk => hk.2.1), i2.put 19 _ (fun v e => by rw [hc] at e; cases e), ⟨ys 9, ?_, fun _ => by rw [upd_off ys _ (by decide)]⟩, ⟨b, i5.same hs (fun e => hmk e.symm), ?_⟩, ?_, fun _ => ?_⟩
  · rw [← hR a (ys 9)]; exact i3.set n _
  · rw [updB_off f (by decide)]; exact i6
  · rw [updB_off f (by decide), upd_off ys _ (by decide)]
    intro h
    obtain ⟨x, y, a1, a2, a3, a4⟩ := i7 h
    exact ⟨x, y, a1, a2.same hs (by show x ≠ gm; omega) (by show y ≠ gm; omega), a3, a4⟩
  · rw [updB_off f (by decide)]; exact hf
theorem InvC.twentyone (h : InvC wr gm gk R C cs key msg u f ys W) (hc : cs[21]? = some none) (n : Nat) (hgk : gk < wr.heap.size) (hmk : gm ≠ gk) (hC : ∀ x y, (C x).setIfInBounds n y = C y) : InvC wr gm gk R C cs key msg u (updB f 21) (upd ys 21 undef) (W.setCell ⟨gk, n, none⟩ u) := by
  obtain ⟨i1, i2, ⟨a, i3, i4⟩, ⟨b, i5, i6⟩, i7, i8⟩ := h
  have hs := Same.set W ⟨gk, n, none⟩ u
  have hs2 := i1.size
  refine ⟨i1.trans (hs.mono fun k hk => hk.2.2), i2.put 21 _ (fun v e => by rw [hc] at e; cases e), ⟨a, i3.same hs hmk, ?_⟩, ⟨u, ?_, fun _ => rfl⟩, ?_, ?_⟩
  · rw [updB_off f (by decide), upd_off ys _ (by decide)]; exact i4
  · rw [← hC b u]; exact i5.set n _
  · rw [updB_off f (by decide), upd_off ys _ (by decide)]
    intro h
    obtain ⟨x, y, a1, a2, a3, a4⟩ := i7 h
    exact ⟨x, y, a1, a2.same hs (by show x ≠ gk; omega) (by show y ≠ gk; omega), a3, a4⟩
  · rw [updB_off f (by decide), updB_off f (by decide)]; exact i8
end
/-- A message goes on by bytes: what has run, and what is known then. -/
structure InvA (w4 : World) (cs : List (Option Value)) (l bs : List UInt8) (f : Nat → Bool) (ys : Nat → Value) (W : World) : Prop where
  later : Later w4 W
  tab : Tab cs f ys
  o1 : f 1 = true → f 5 = false → Own 5 W w4.heap.size (ys 1) []
  o5 : f 5 = true → f 11 = false → Own 5 W w4.heap.size (ys 5) l
  o11 : f 11 = true → Own 5 W w4.heap.size (ys 11) (l ++ bs)
  ord : f 11 = true → f 5 = true
section
variable {w4 W W' : World} {cs : List (Option Value)} {l bs : List UInt8} {f : Nat → Bool} {ys : Nat → Value}
theorem InvA.pure (h : InvA w4 cs l bs f ys W) (hL : Later W W') (k : Nat) (x : Value) (h1 : 1 ≠ k) (h5 : 5 ≠ k) (h11 : 11 ≠ k) (hx : ∀ v, cs[k]? = some (some v) → x = v) : InvA w4 cs l bs (updB f k) (upd ys k x) W' := by
  obtain ⟨i1, i2, i3, i4, i5, i6⟩ := h
  refine ⟨i1.step hL, i2.put k x hx, ?_, ?_, ?_, ?_⟩
  · rw [updB_off f h1, updB_off f h5, upd_off ys x h1]; exact fun a b => (i3 a b).later hL
  · rw [updB_off f h5, updB_off f h11, upd_off ys x h5]; exact fun a b => (i4 a b).later hL
  · rw [updB_off f h11, upd_off ys x h11]; exact fun a => (i5 a).later hL
  · rw [updB_off f h11, updB_off f h5]; exact i6
theorem InvA.one (h : InvA w4 cs l bs f ys W) (hL : Later W W') (hc : cs[1]? = some none) {v : Value} (ho : Own 5 W' w4.heap.size v []) : InvA w4 cs l bs (updB f 1) (upd ys 1 v) W' := by
  obtain ⟨i1, i2, i3, i4, i5, i6⟩ := h
  refine ⟨i1.step hL, i2.put 1 v (fun v e => by rw [hc] at e; cases e), fun _ _ => by simpa [upd] using ho, ?_, ?_, ?_⟩
  · rw [updB_off f (by decide), updB_off f (by decide), upd_off ys v (by decide)]; exact fun a b => (i4 a b).later hL
  · rw [updB_off f (by decide), upd_off ys v (by decide)]; exact fun a => (i5 a).later hL
  · rw [updB_off f (by decide), updB_off f (by decide)]; exact i6
theorem InvA.five (h : InvA w4 cs l bs f ys W) {u v : Value} (hu : Own 5 W w4.heap.size u []) (hg : W.grownBy W' u.ownBlock) (hc : cs[5]? = some none) (hf : f 5 = false) (ho : Own 5 W' w4.heap.size v l) : InvA w4 cs l bs (updB f 5) (upd ys 5 v) W' := by
  obtain ⟨i1, i2, i3, i4, i5, i6⟩ := h
  have h11 : f 11 = true → False := fun h => by rw [i6 h] at hf; cases hf
  refine ⟨i1.grown hg i1.size fun j e => (hu.at_ j e).1, i2.put 5 v (fun v e => by rw [hc] at e; cases e), fun _ h => by simp [updB] at h, fun _ _ => by simpa [upd] using ho, ?_, ?_⟩
  · rw [updB_off f (by decide)]; exact fun h => (h11 h).elim
  · rw [updB_off f (by decide)]; exact fun h => (h11 h).elim
theorem InvA.eleven (h : InvA w4 cs l bs f ys W) {u v : Value} (hu : Own 5 W w4.heap.size u l) (hg : W.grownBy W' u.ownBlock) (hc : cs[11]? = some none) (hf : f 5 = true) (ho : Own 5 W' w4.heap.size v (l ++ bs)) : InvA w4 cs l bs (updB f 11) (upd ys 11 v) W' := by
  obtain ⟨i1, i2, i3, i4, i5, i6⟩ := h
  refine ⟨i1.grown hg i1.size fun j e => (hu.at_ j e).1, i2.put 11 v (fun v e => by rw [hc] at e; cases e), ?_, fun _ h => by simp [updB] at h, fun _ => by simpa [upd] using ho, ?_⟩
  · rw [updB_off f (by decide), updB_off f (by decide)]; exact fun _ h => by rw [hf] at h; cases h
  · intro _; rw [updB_off f (by decide)]; exact hf
end
end Go.Proofs.Ytbjclmfhmdalkaa
