/- Walks: the document's Frames: a row of parts that grows. -/
import Derived.Test.YtmipaacobioakaaWr46
set_option linter.unusedVariables false
set_option linter.unusedSimpArgs false
namespace Go.Proofs.Ytmipaacobioakaa
open Go.RowKit
namespace Wr
theorem rest_drop (l : List UInt8) : ∀ k, (∀ i, i < k → goes i l = true) → rest k l = l.drop (upto k l).toNat
  | 0, _ => by simp [rest, upto]
  | k + 1, h => by
    have ih := rest_drop l k (fun i hi => h i (by omega))
    obtain ⟨h1, h2⟩ := upto_le l k (fun i hi => h i (by omega))
    obtain ⟨b1, b2, b3⟩ := split_bounds (rest k l)
    rw [rest, upto_succ, size, ih, List.drop_drop]
    rw [ih] at b1
    congr 1
    omega
theorem upto_ge (l : List UInt8) : ∀ k, (∀ i, i < k → goes i l = true) → (k : Int) ≤ upto k l
  | 0, _ => by simp [upto]
  | k + 1, h => by
    have ih := upto_ge l k (fun i hi => h i (by omega))
    obtain ⟨b1, b2, b3⟩ := split_bounds (rest k l)
    have hg := h k (by omega)
    unfold goes at hg
    rw [Bool.and_eq_true] at hg
    have h0 : (splitR (rest k l)).2.1 ≠ 0 := by simpa using hg.2
    rw [upto_succ, size]
    omega
end Wr
/-- A part: where its frame ends, where its body lies, the body. -/
structure PartR where
  at_ : Int
  A : Option Addr
  c : Nat
  body : List UInt8
def PartR.cells (d : PartR) : Array Value := #[.int .i64 d.at_, .slice d.A d.body.length d.c]
def partsC (ds : List PartR) : List Value := (ds.map fun d => d.cells.toList).flatten
theorem partsC_snoc (ds : List PartR) (d : PartR) : partsC (ds ++ [d]) = partsC ds ++ d.cells.toList := by simp [partsC]
theorem partsC_at : ∀ (ds : List PartR) (k : Nat) (h : k < ds.length) (j : Nat), j < 2 → (partsC ds)[k * 2 + j]? = ds[k].cells.toList[j]?
  | d :: ds, 0, _, j, hj => by
    unfold partsC
    rw [List.map_cons, List.flatten_cons, Nat.zero_mul, Nat.zero_add, List.getElem?_append_left (by simp [PartR.cells]; exact hj)]
    rfl
  | d :: ds, k + 1, h, j, hj => by
    have ih := partsC_at ds k (by simpa using h) j hj
    unfold partsC at *
    rw [List.map_cons, List.flatten_cons, List.getElem?_append_right (by simp [PartR.cells]; omega)]
    rw [show (k + 1) * 2 + j - d.cells.toList.length = k * 2 + j by simp [PartR.cells]; omega]
    simpa using ih
def OwnParts (w : World) (base : Nat) (v : Value) (ds : List PartR) : Prop := w.ownsRow base 88 2 v ds.length (partsC ds)
theorem OwnParts.nil (w : World) (base : Nat) : OwnParts w base (.slice none 0 0) [] := ⟨rfl, .inl ⟨rfl, rfl⟩⟩
theorem OwnParts.at_ {w : World} {base : Nat} {v : Value} {ds : List PartR} (h : OwnParts w base v ds) : ∀ k, v.ownBlock = some k → base ≤ k ∧ k < w.heap.size := World.ownsRow.lt h
theorem OwnParts.keep {w w' : World} {base : Nat} {v : Value} {ds : List PartR} (h : OwnParts w base v ds) (hk : ∀ b, b < w.heap.size → v.ownBlock = some b → w'.heap[b]? = w.heap[b]?) : OwnParts w' base v ds := by
  obtain ⟨h1, h2⟩ := h
  refine ⟨h1, ?_⟩
  rcases h2 with h2 | ⟨g, cap, cur, e, hb, hh, hr⟩
  · exact .inl h2
  · exact .inr ⟨g, cap, cur, e, hb, (hk g (Array.getElem?_eq_some_iff.1 hh).1 (by rw [e]; rfl)).trans hh, hr⟩
theorem OwnParts.later {w w' : World} {base : Nat} {v : Value} {ds : List PartR} (h : OwnParts w base v ds) (hL : Later w w') : OwnParts w' base v ds := h.keep fun b hb _ => Below.block hL b hb
theorem OwnParts.shape {w : World} {base : Nat} {v : Value} {ds : List PartR} (h : OwnParts w base v ds) : ∃ A c, v = .slice A ds.length c := by
  rcases h.2 with ⟨rfl, hn⟩ | ⟨g, cap, cur, rfl, hb, hh, hn, hc, hs, ht⟩
  · have : ds = [] := List.eq_nil_of_length_eq_zero hn
    subst this
    exact ⟨none, 0, rfl⟩
  · exact ⟨_, cap, rfl⟩
theorem OwnParts.get {w : World} {base n c : Nat} {A : Option Addr} {ds : List PartR} (h : OwnParts w base (.slice A n c) ds) (k : Nat) (hk : k < ds.length) : ∃ b, A = some ⟨b, 0, none⟩ ∧ base ≤ b ∧ b < w.heap.size ∧ w.cell? ⟨b, k * 2, none⟩ = some (.int .i64 ds[k].at_) ∧ w.cell? ⟨b, k * 2 + 1, none⟩ = some (.slice ds[k].A ds[k].body.length ds[k].c) := by
  rcases h.2 with ⟨e, hn⟩ | ⟨g, cap, cur, e, hb, hh, hn, hc, hs, ht⟩
  · omega
  · injection e with e1 e2 e3
    subst e1
    have h0 := World.ownsRow.cells h (g := g) rfl (k * 2 + 0) (.int .i64 ds[k].at_) (by rw [partsC_at ds k hk 0 (by omega)]; rfl)
    have h1 := World.ownsRow.cells h (g := g) rfl (k * 2 + 1) (.slice ds[k].A ds[k].body.length ds[k].c) (by rw [partsC_at ds k hk 1 (by omega)]; rfl)
    rw [addr_add, Nat.zero_add] at h0 h1
    exact ⟨g, rfl, hb, (Array.getElem?_eq_some_iff.1 hh).1, h0, h1⟩
theorem infoPartF : (Try.prog.info? 88).map (fun i => (i.zero, i.size, i.bytes)) = some (some (.agg #[.int .i64 0, .slice none 0 0]), 2, 32) := by kernel_rfl
theorem wpList_append_part {w : World} {ops : Array Oper} {rest : List Oper} {o : Oper} {a : Act} {Q : Exit → Act → World → Prop} (hgd : o.guard = none) (s x : Operand)
    (ho : o.op = .call { callee := .builtin .append, args := #[s, x], argTypes := #[85, 85] })
    (base : Nat) (v : Value) (ds : List PartR) (hs : a.eval s = v) (hown : OwnParts w base v ds) (b c : Nat) (d : PartR) (hx : a.eval x = .slice (some ⟨b, 0, none⟩) 1 c) (hr : Row w b 88 d.cells)
    (hl : ds.length ≤ 1000000000) (hbase : base ≤ w.heap.size)
    (h : ∀ v' w', OwnParts w' base v' (ds ++ [d]) → w.grownBy w' v.ownBlock → (v'.ownBlock = v.ownBlock ∨ v'.ownBlock = some w.heap.size) → wpList Try.prog ops Q rest (a.put o.dst v') w') : wpList Try.prog ops Q (o :: rest) a w := by
  obtain ⟨i, hi, he⟩ := Option.map_eq_some_iff.1 infoPartF
  injection he with hz he
  injection he with hsz hby
  refine wpList_append_own_at w hgd s x 85 ho base 88 i _ 2 32 Try.underlying85 hi hz hsz hby rfl (by decide) v ds.length (partsC ds) hs hown ⟨b, 0, none⟩ 1 c d.cells.toList hx (by simp [PartR.cells]) (fun j u hj => ?_) ?_ (by unfold maxLen; omega) (by omega) hbase
    fun v' w' h1 h2 _ h4 => h v' w' (by unfold OwnParts; rw [List.length_append, partsC_snoc]; exact h1) h2 h4
  · rw [Array.getElem?_toList] at hj
    rw [addr_add, Nat.zero_add]
    exact (hr.cell j).trans hj
  · intro u hu
    simp [PartR.cells] at hu
    rcases hu with rfl | rfl <;> rfl
/-- What the document's Frames tells. -/
def Parts (A : Option Addr) (l : List UInt8) (ds : List PartR) : Prop :=
  (∀ k, k < ds.length → Wr.goes k l = true) ∧ ∀ k (hk : k < ds.length), ds[k].at_ = Wr.upto (k + 1) l ∧ ds[k].body = Wr.body k l ∧ ∀ W, Rd W A l → Rd W ds[k].A ds[k].body
set_option maxRecDepth 100000 in
set_option maxHeartbeats 4000000 in
theorem refFrames_any (A : Option Addr) (n c : Nat) (l : List UInt8) (w : World) (hn : l.length = n) (hc : n ≤ c) (hcm : c ≤ 9223372036854775807) (hm : n ≤ 1000000000) (hr : Rd w A l) :
    Calls Try.prog 34 #[.slice A n c] w fun e w' => ∃ v ds, e = .returned v ∧ OwnParts w' w.heap.size v ds ∧ Parts A l ds ∧ Wr.goes ds.length l = false ∧ Later w w' := by
  refine Calls.post fun Φ HΦ => ?_
  go_enter Try.func34, Try.ntmps34
  go_wp2_with fail
  go_loopw [3, 4] (fun v t wr => ∃ ds : List PartR, t = .int .i64 (Wr.upto ds.length l) ∧ OwnParts wr w.heap.size v ds ∧ Parts A l ds ∧ Later w wr) (fun _ t _ => n - (intOf t).toNat)
  case atStart => exact ⟨[], by simp [Wr.upto], OwnParts.nil _ _, ⟨by simp, by simp⟩, Later.refl _⟩
  case round =>
    obtain ⟨ds, rfl, hown, hp, hLr⟩ := hrel
    have hgo := hp.1
    obtain ⟨k, hk⟩ : ∃ k, ds.length = k := ⟨_, rfl⟩
    rw [hk] at hgo ⊢
    obtain ⟨u1, u2⟩ := Wr.upto_le l k hgo
    have u3 := Wr.upto_ge l k hgo
    have hrd := Wr.rest_drop l k hgo
    obtain ⟨U, hU⟩ : ∃ U : Nat, Wr.upto k l = U := ⟨(Wr.upto k l).toNat, by omega⟩
    rw [hU] at u1 u2 u3 hrd ⊢
    rw [Int.toNat_natCast] at hrd
    rw [hn] at u2
    have hUn : U ≤ n := by omega
    obtain ⟨D, hs1, hD⟩ := run_slice_from (P := Try.prog) (t := 22) (U := 5) (A := A) (n := n) (ca := c) (k := U) Try.underlying22 byteInfo hUn hc
    have hDr := fun W (h : Rd W A l) => hD W l hn h
    have hsp := refSplit_any D (n - U) (c - U) (Wr.rest k l) wr (by rw [hrd, List.length_drop, hn]) (by omega) (by omega) (by omega) (by rw [hrd]; exact hDr wr (hr.later hLr))
    have hgs : Wr.goes k l = ((Wr.splitR (Wr.rest k l)).2.2 == 0 && !((Wr.splitR (Wr.rest k l)).2.1 == 0)) := rfl
    have hbo : Wr.body k l = (Wr.splitR (Wr.rest k l)).1 := rfl
    have hsi : Wr.size k l = (Wr.splitR (Wr.rest k l)).2.1 := rfl
    have hbn := Wr.split_bounds (Wr.rest k l)
    have hus := Wr.upto_succ k l
    rw [hsi, hU] at hus
    have hrl : ((Wr.rest k l).length : Int) = n - U := by omega
    rw [hrl] at hbn
    rw [← hrd] at hDr
    generalize Wr.splitR (Wr.rest k l) = R at *
    obtain ⟨bd, sz, er⟩ := R
    simp only at hgs hbo hsi hbn hsp hus
    have HK := Lib.hid hk
    have HGS := Lib.hid hgs
    have HBO := Lib.hid hbo
    have HUS := Lib.hid hus
    have HDR := Lib.hid hDr
    have HP := Lib.hid hp
    have HGO := Lib.hid hgo
    clear hk hgs hbo hsi hrd hrl hU hD hDr hp hgo
    have hdl : ds.length ≤ 1000000000 := by have := HK.out; omega
    by_cases he0 : er = 0
    · subst he0
      by_cases hs0 : sz = 0
      · subst hs0
        go_wp2_with (first
          | (go_at_call 31; refine hsp.mono ?_; clear hsp; rintro e w2 ⟨A', c', rfl, hA', hL2⟩)
          | fail)
        exact HΦ.out _ _ ⟨_, ds, rfl, hown.later hL2, HP.out, by rw [HK.out, HGS.out]; rfl, hLr.step hL2⟩
      · obtain ⟨q, rfl⟩ : ∃ q : Nat, sz = q := ⟨sz.toNat, by omega⟩
        have hz : ((q : Int) == 0) = false := by simpa using hs0
        obtain ⟨V, hV⟩ : ∃ V : Nat, (U : Int) + (q : Int) = V := ⟨U + q, by omega⟩
        have hVn : V ≤ n := by omega
        have hgk : Wr.goes k l = true := by rw [HGS.out, hz]; rfl
        have HGK := Lib.hid hgk
        clear hgk
        go_wp2_with (first
          | (go_at_call 31; refine hsp.mono ?_; clear hsp; rintro e w2 ⟨A', c', rfl, hA', hL2⟩)
          | (at_builtin; refine wpList_append_part rfl (.tmp 26) (.tmp 30) rfl w.heap.size _ ds rfl ((hown.later hL2).later ((Later.refl w2).alloc (.cells #[.int .i64 (V : Int), .slice A' bd.length c'] 88))) w2.heap.size 1 ⟨(V : Int), A', c', bd⟩ rfl (Row.new w2 _ _) hdl (by have := hLr.size; have := hL2.size; simp; omega) ?_; intro v3 w3 hown3 hg3 hat3)
          | fail)
        have hL2a := (hLr.step hL2).alloc (.cells #[.int .i64 (V : Int), .slice A' bd.length c'] 88)
        have hL3 : Later w w3 := hL2a.grown hg3 hL2a.size (fun j e => (hown.at_ j e).1)
        have hlen : (ds ++ [(⟨(V : Int), A', c', bd⟩ : PartR)]).length = k + 1 := by rw [List.length_append, HK.out]; rfl
        have hup : Wr.upto (k + 1) l = (V : Int) := by rw [HUS.out]; exact hV
        have hp3 : Parts A l (ds ++ [(⟨(V : Int), A', c', bd⟩ : PartR)]) := by
          refine ⟨fun j hj => ?_, fun j hj => ?_⟩
          · rw [hlen] at hj
            by_cases e : j = k
            · rw [e]; exact HGK.out
            · exact HGO.out j (by omega)
          · by_cases e : j < ds.length
            · rw [List.getElem_append_left e]
              exact HP.out.2 j e
            · have hj' : j = k := by have := HK.out; rw [hlen] at hj; omega
              subst hj'
              rw [List.getElem_append_right (by rw [HK.out]; exact Nat.le_refl _)]
              simp only [HK.out, Nat.sub_self, List.getElem_cons_zero]
              exact ⟨hup.symm, HBO.out.symm, fun W h => hA' W (HDR.out W h)⟩
        go_roundw
        case rel => exact ⟨_, by rw [hlen, hup], hown3, hp3, hL3⟩
        case measure => simp [intOf]; omega
    · have hez : (er == 0) = false := by simpa using he0
      go_wp2_with (first
        | (go_at_call 31; refine hsp.mono ?_; clear hsp; rintro e w2 ⟨A', c', rfl, hA', hL2⟩)
        | fail)
      exact HΦ.out _ _ ⟨_, ds, rfl, hown.later hL2, HP.out, by rw [HK.out, HGS.out, hez]; rfl, hLr.step hL2⟩
end Go.Proofs.Ytmipaacobioakaa
