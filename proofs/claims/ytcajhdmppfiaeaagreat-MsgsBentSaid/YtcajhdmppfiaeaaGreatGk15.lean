/- Walks, msgs: Check, the kind that is looked up. -/
import Derived.Test.YtcajhdmppfiaeaaGreatGk14
set_option linter.unusedVariables false
set_option linter.unusedSimpArgs false
namespace Go.Proofs.YtcajhdmppfiaeaaGreat
open Go.RowKit Ms
/-- A later world, but that kinds' rows from block B on may hold others. -/
structure LaterK (B : Nat) (w W : World) : Prop where
  os : W.os = w.os
  tape : W.tape = w.tape
  output : W.output = w.output
  size : w.heap.size ≤ W.heap.size
  block : ∀ k, k < w.heap.size → (k < B ∨ ∀ cs, ¬ Row w k 71 cs) → W.heap[k]? = w.heap[k]?
  kinds : ∀ k cs, Row w k 71 cs → cs.size = 3 → ∃ cs', Row W k 71 cs' ∧ cs'.size = 3
theorem Later.k {w W : World} (h : Later w W) (B : Nat) : LaterK B w W := ⟨h.os, h.tape, h.output, h.size, fun k hk _ => h.block k hk, fun k cs hr hz => ⟨cs, hr.later h, hz⟩⟩
theorem LaterK.kt {B : Nat} {w W : World} (h : LaterK B w W) : KT w W := fun b T cs ht hr => (h.block b hr.lt (.inr fun cs' hr' => by
  have := Row.type hr hr'
  subst this
  revert ht
  decide)).trans hr
theorem LaterK.row {B : Nat} {w W : World} {b : Nat} {T : TypeId} {cs : Array Value} (h : LaterK B w W) (hr : Row w b T cs) (hT : T ≠ 71) : Row W b T cs := (h.block b hr.lt (.inr fun cs' hr' => hT (Row.type hr hr'))).trans hr
theorem LaterK.map {B : Nat} {w W : World} {m : Nat} {φ : Int → Value → Prop} (h : LaterK B w W) (hm : MapHas w m φ) : MapHas W m φ := by
  obtain ⟨es, clk, h1, h2, h3⟩ := hm
  exact ⟨es, clk, (h.block m (Array.getElem?_eq_some_iff.1 h1).1 (.inr fun cs hr => by
    have e := (show w.heap[m]? = some (Obj.cells cs 71 (0, 0)) from hr).symm.trans h1
    cases e)).trans h1, h2, h3⟩
theorem KindV.kt {W W' : World} {name : ByteArray} {F : FuncId} {fs : List Fld} {v : Value} (h : KindV W name F fs v) (k : KT W W') : KindV W' name F fs v := by
  obtain ⟨A, e, h⟩ := h
  exact ⟨A, e, h.kt k⟩
theorem LaterK.at_ {B : Nat} {w W : World} {m : Nat} (h : LaterK B w W) (hm : KindsAt w m) : KindsAt W m := by
  obtain ⟨φ, h1, h2, h3⟩ := hm
  exact ⟨φ, h.map h1, fun i v hv => ⟨(h2 i v hv).1, (h2 i v hv).2.kt h.kt⟩, h3⟩
theorem LaterK.stored {B : Nat} {w W : World} {b : Nat} {cs : Array Value} (hB : B ≤ b) (hr : Row W b 71 cs) (hz : cs.size = 3) (hr0 : ∃ cs0, Row w b 71 cs0) (hg : w.grownBy W (some b)) : LaterK B w W := by
  obtain ⟨cs0, hr0⟩ := hr0
  refine ⟨hg.os, hg.tape, hg.output, hg.size, fun k hk h => hg.block k hk (fun e => ?_), fun k cs' hr' hz' => ?_⟩
  · injection e with e
    subst e
    rcases h with h | h
    · omega
    · exact h _ hr0
  · by_cases e : k = b
    · subst e
      exact ⟨cs, hr, hz⟩
    · exact ⟨cs', hr'.grown hg (fun e' => e (Option.some.inj e')), hz'⟩
/-- What is known of the values of Check's second statement. -/
def VC (k : Int) (g B : Nat) (j : Nat) (xs : Nat → Value) (W : World) : Prop := match j with
  | 0 => ∃ m, xs 0 = .map (some m) ∧ KindsAt W m
  | 1 => xs 1 = .pointer (some ⟨g, 0, none⟩)
  | 2 => xs 2 = .int .i64 k
  | 3 => ∃ A, xs 3 = .tuple #[kindV k A, .bool (isKind k)] ∧ RdP W A (flds k)
  | 4 => ∃ A, xs 4 = .tuple #[kindV k A, .bool (isKind k)] ∧ RdP W A (flds k)
  | 5 => ∃ A, xs 5 = kindV k A ∧ RdP W A (flds k)
  | 6 => xs 6 = .bool (isKind k)
  | 7 => ∃ b cs, xs 7 = .pointer (some ⟨b, 0, none⟩) ∧ Row W b 71 cs ∧ cs.size = 3 ∧ B ≤ b
  | 8 => ∃ b A cs, xs 7 = .pointer (some ⟨b, 0, none⟩) ∧ kindV k A = .agg cs ∧ RdP W A (flds k) ∧ B ≤ b ∧ Row W b 71 cs
  | _ => True
theorem putKind {W : World} {b : Nat} {k : Int} {A : Option Addr} {cs0 : Array Value} (hr : Row W b 71 cs0) (h0 : cs0.size = 3) : ∃ W' cs, (Instr.storeAt 71 (.pointer (some ⟨b, 0, none⟩)) (kindV k A)).run Tryz.prog W = .ok () W' ∧ kindV k A = .agg cs ∧ cs.size = 3 ∧ Row W' b 71 cs ∧ W.grownBy W' (some b) := by
  obtain ⟨cs, e, hz, h1, h2, h3, _⟩ := kindV_one k A
  rw [e]
  refine ⟨_, cs, run_store_row hr cs (by rw [hz]; exact infoKind) (by rw [hz, h0]; decide) h1, rfl, hz, ?_, grown_setCells _ _ _⟩
  have hr2 := row_setCells cs.toList 0 _ _ hr
  rwa [setFrom_whole _ _ (by rw [Array.length_toList, hz, h0]), Array.toArray_toList] at hr2
/-- What operation i does to the world. -/
def EC (B i : Nat) (W W' : World) : Prop := if i = 8 then LaterK B W W' else Later W W'
theorem EC.k {B i : Nat} {W W' : World} (h : EC B i W W') : LaterK B W W' := by
  unfold EC at h
  split at h
  · exact h
  · exact h.k B
theorem VC.st (ops : Array Oper) (h87 : waits ops 8 7 = true) {k : Int} {g B : Nat} : ∀ i j xs v W W', j < ops.size → j ≠ i → waits ops j i = false → VC k g B j xs W → EC B i W W' → VC k g B j (upd xs i v) W' := by
  intro i j xs v W W' hj hne hw hV hE
  have hk := hE.k
  have hup : upd xs i v j = xs j := upd_ne xs v hne
  unfold VC at *
  split at hV
  · obtain ⟨m, e, h⟩ := hV; exact ⟨m, by rw [hup]; exact e, hk.at_ h⟩
  · rw [hup]; exact hV
  · rw [hup]; exact hV
  · obtain ⟨m, e, h⟩ := hV; exact ⟨m, by rw [hup]; exact e, h.kt hk.kt⟩
  · obtain ⟨m, e, h⟩ := hV; exact ⟨m, by rw [hup]; exact e, h.kt hk.kt⟩
  · obtain ⟨m, e, h⟩ := hV; exact ⟨m, by rw [hup]; exact e, h.kt hk.kt⟩
  · rw [hup]; exact hV
  · obtain ⟨b, cs, e, h, hz, hb⟩ := hV
    obtain ⟨cs', h', hz'⟩ := hk.kinds b cs h hz
    exact ⟨b, cs', by rw [hup]; exact e, h', hz', hb⟩
  · obtain ⟨b, A, cs, e, h1, h2, h3, h4⟩ := hV
    have hi7 : (7 : Nat) ≠ i := fun e => by subst e; rw [h87] at hw; cases hw
    have hL : Later W W' := by
      unfold EC at hE
      rwa [if_neg (fun e => hne e.symm)] at hE
    exact ⟨b, A, cs, by rw [upd_ne xs v hi7]; exact e, h1, h2.kt hk.kt, h3, h4.later hL⟩
  · trivial
theorem plainX {P : Program} {ops : Array Oper} {Q : Exit → Act → World → Prop} {o : Oper} {a : Act} {W : World} {R : Value → World → Prop} (B i : Nat) (hi : i ≠ 8) (hg : o.guard = none) (h : o.wp P a W (fun a' W' => ∃ v, a' = a.put o.dst v ∧ Later W W' ∧ R v W') Q) : StepOkE P ops Q (EC B i) o a W R :=
  stepOkE_later (fun W' h => by unfold EC; rw [if_neg hi]; exact h) hg h
theorem EC.refl (B i : Nat) (W : World) : EC B i W W := by
  unfold EC
  split
  · exact (Later.refl W).k B
  · exact Later.refl W
theorem EC.below {w : World} (i : Nat) (W W' : World) (h : Below w.heap.size w W) (hE : EC w.heap.size i W W') : Below w.heap.size w W' :=
  ⟨hE.k.os.trans h.os, hE.k.tape.trans h.tape, hE.k.output.trans h.output, Nat.le_trans h.size hE.k.size, fun k hk => (hE.k.block k (Nat.lt_of_lt_of_le hk h.size) (.inl hk)).trans (h.block k hk)⟩
end Go.Proofs.YtcajhdmppfiaeaaGreat
