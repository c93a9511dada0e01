/- Walks: frames split off, one behind the other (wire.split's iterator). -/
import Derived.Test.YtmipaacobioakaaRangeW
set_option linter.unusedVariables false
set_option linter.unusedSimpArgs false
namespace Go.Proofs.Ytmipaacobioakaa
open Go.RowKit
namespace Wr
/-- What is left behind so many frames. -/
def rest : Nat → List UInt8 → List UInt8
  | 0, l => l
  | k + 1, l => (rest k l).drop (splitR (rest k l)).2.1.toNat
/-- There is a frame behind so many frames. -/
def goes (k : Nat) (l : List UInt8) : Bool := (splitR (rest k l)).2.2 == 0 && !((splitR (rest k l)).2.1 == 0)
def size (k : Nat) (l : List UInt8) : Int := (splitR (rest k l)).2.1
def body (k : Nat) (l : List UInt8) : List UInt8 := (splitR (rest k l)).1
theorem split_bounds (l : List UInt8) : 0 ≤ (splitR l).2.1 ∧ (splitR l).2.1 ≤ l.length ∧ (splitR l).1.length ≤ l.length := by
  obtain ⟨h1, h2, h3⟩ := first_le l
  have hp : (piece l).length ≤ l.length := by unfold piece; rw [List.length_take, List.length_drop]; omega
  have ho : (openB (piece l)).length ≤ (piece l).length := by unfold openB; split <;> simp
  unfold splitR
  split
  · simp
  · split
    · simp
    · split
      · simp
      · split
        · refine ⟨by show 0 ≤ (first l).2 + ((first l).1 : Int); omega, by show (first l).2 + ((first l).1 : Int) ≤ l.length; omega, by show (openB (piece l)).length ≤ l.length; omega⟩
        · simp
theorem rest_len (k : Nat) (l : List UInt8) : (rest k l).length ≤ l.length := by
  induction k with
  | zero => exact Nat.le_refl _
  | succ k ih => unfold rest; rw [List.length_drop]; omega
end Wr
theorem run_slice_from2 {P : Program} {t U : TypeId} {A : Option Addr} {n ca k : Nat} (ht : P.underlying t = some (.slice U)) (hi : ByteInfo P U) (h1 : k ≤ n) (h2 : n ≤ ca) :
    ∃ D, (∀ w : World, (Instr.slice t (.slice A n ca) (some (.int .i64 (k : Int))) none none).run P w = .ok (.slice D (n - k) (ca - k)) w) ∧ (∀ (W : World) (l : List UInt8), l.length = n → Rd W A l → Rd W D (l.drop k)) ∧ ∀ ad, D = some ad → ∃ ad', A = some ad' ∧ ad'.block = ad.block := by
  obtain ⟨i, hi0, hz, hs, hb⟩ := info_parts hi
  have he : P.elem t = U := by simp [Program.elem, ht]
  have ht' : P.underlying t = some (.slice (P.elem t)) := by rw [he]; exact ht
  refine ⟨if ca = k then A else A.map (·.add (k * 1)), fun w => ?_, fun W l hl hr => ?_, fun ad e => ?_⟩
  · rw [run_slice_l w t A n ca ht' .i64 (k : Int) (by omega) (by omega), he]
    simp [sizeOf, typeInfo, hi0, hs, sliced]
  · by_cases h : ca = k
    · have : l.drop k = [] := List.drop_eq_nil_of_le (by omega)
      rw [this]
      exact Rd.nil _ _
    · rw [if_neg h, Nat.mul_one]
      intro hne
      obtain ⟨b, o, e, hc⟩ := hr (by intro e; subst e; simp at hne)
      subst e
      refine ⟨b, o + k, by unfold Addr.add; simp, fun i hi' => ?_⟩
      rw [List.getElem_drop, Nat.add_assoc]
      exact hc (k + i) (by rw [List.length_drop] at hi'; omega)
  · split at e
    · exact ⟨ad, e, rfl⟩
    · rcases A with _ | x
      · cases e
      · refine ⟨x, rfl, ?_⟩
        have e2 : x.add (k * 1) = ad := Option.some.inj e
        rw [← e2]
        unfold Addr.add
        split <;> rfl
def lenV : Value → Nat
  | .slice _ n _ => n
  | _ => 0
/-- A frame's body as it is yielded: where the iterator tells it to lie. -/
structure Fr where
  at_ : Int
  A : Option Addr
  c : Nat
  body : List UInt8
  base : Nat
abbrev frE (x : Fr) : Array Value := #[.int .i64 x.at_, .slice x.A x.body.length x.c]
/-- A round keeps all blocks but those of D and the element's own. -/
structure KeepW (D : Nat → Prop) (x : Fr) (X Y : World) : Prop where
  size : X.heap.size ≤ Y.heap.size
  block : ∀ b, b < X.heap.size → ¬ D b → (∀ o, x.A ≠ some ⟨b, o, none⟩) → Y.heap[b]? = X.heap[b]?
theorem KeepW.trans {D : Nat → Prop} {x : Fr} {X Y Z : World} (h : KeepW D x X Y) (k : KeepW D x Y Z) : KeepW D x X Z :=
  ⟨Nat.le_trans h.size k.size, fun b hb hd ha => (k.block b (Nat.lt_of_lt_of_le hb h.size) hd ha).trans (h.block b hb hd ha)⟩
theorem KeepW.row {D : Nat → Prop} {x : Fr} {X Y : World} {g : Nat} {t : TypeId} {cs : Array Value} (h : KeepW D x X Y) (hr : Row X g t cs) (hd : ¬ D g) (ha : ∀ o, x.A ≠ some ⟨g, o, none⟩) : Row Y g t cs := (h.block g hr.lt hd ha).trans hr
theorem KeepW.rd {D : Nat → Prop} {x : Fr} {X Y : World} {A : Option Addr} {l : List UInt8} (h : KeepW D x X Y) (hr : Rd X A l) (hd : ∀ b o, A = some ⟨b, o, none⟩ → ¬ D b ∧ ∀ o', x.A ≠ some ⟨b, o', none⟩) : Rd Y A l := fun hl => by
  obtain ⟨b, o, e, hc⟩ := hr hl
  have hb : b < X.heap.size := block_lt_of_cell (hc 0 (List.length_pos_iff.2 hl))
  exact ⟨b, o, e, fun i hi => (World.cell?_of_block (w := X) (a := ⟨b, o + i, none⟩) (h.block b hb (hd b o e).1 (hd b o e).2)).trans (hc i hi)⟩
/-- The element is told as the frames of l go, and lies in a block of its own. -/
def FrOk (sum : Bool) (B : Nat) (l : List UInt8) (pre : List Fr) (x : Fr) (X : World) : Prop :=
  Wr.goes pre.length l = true ∧ x.body = Wr.body pre.length l ∧ x.at_ = (if sum then ((List.range (pre.length + 1)).map fun i => Wr.size i l).sum else Wr.size pre.length l) ∧ Own 5 X x.base (.slice x.A x.body.length x.c) x.body ∧ B ≤ x.base ∧ x.base ≤ X.heap.size
theorem FrOk.block {sum : Bool} {B : Nat} {l : List UInt8} {pre : List Fr} {x : Fr} {X : World} (h : FrOk sum B l pre x X) {b o : Nat} (e : x.A = some ⟨b, o, none⟩) : x.base ≤ b ∧ b < X.heap.size := h.2.2.2.1.at_ b (by rw [e]; rfl)
set_option maxRecDepth 100000 in
set_option maxHeartbeats 4000000 in
theorem split1_seq (l : List UInt8) (gb gd : Nat) (A : Option Addr) (n c : Nat) (w : World) (n1 : Nat) (hn1 : 1 ≤ n1) (D : Nat → Prop) (hDb : ¬ D gb) (hDd : ¬ D gd) (hn : l.length = n) (hc : n ≤ c) (hcm : c ≤ 9223372036854775807) (hA : Rd w A l) (hAg : ∀ ad, A = some ad → ad.block = gd) (hk : Row w gb 22 #[.slice A n c]) (hbd : gb ≠ gd) (hgd : gd < w.heap.size) :
    SeqW Fence.wide n1 Try.prog 76 #[.pointer (some ⟨gb, 0, none⟩)] frE (KeepW D) (fun xs => Wr.goes xs.length l = false ∧ ∀ k, k < xs.length → Wr.goes k l = true) (fun _ => True) (FrOk false (w.heap.size + 2) l) (fun r => r = gb) w := fun k0 J Jx W hW hW2 hJ hJx hY h0 => by
  have hkW := hk.belowAll hW
  have hAW := hA.below hW
  have hgb : gb < w.heap.size := hk.lt
  have hWs := hW.size
  have HY := Lib.hid hY
  have HJ := Lib.hid hJ
  have HN := Lib.hid hn
  clear hY hJ hJx hk hA hW hn
  refine callsIn_of_wp Try.func76 rfl trivial ?_ rfl
  simp only [Try.ntmps76, List.size_toArray, List.length_cons, List.length_nil, Nat.reduceAdd, Nat.reduceSub, Array.replicate_succ, Array.replicate_zero, List.push_toArray, List.append_toArray, List.nil_append, List.cons_append]
  gi_wp2
  refine wpIn_scope_wide ?_
  gi_wp2
  refine wpIn_label ?_
  gi_wp2
  gi_loopw [3] (fun v wr => ∃ (pre : List Fr) (A' : Option Addr) (c' : Nat), Row wr gb 22 #[.slice A' (Wr.rest pre.length l).length c'] ∧ (Wr.rest pre.length l).length ≤ c' ∧ c' ≤ 9223372036854775807 ∧ Rd wr A' (Wr.rest pre.length l) ∧ (∀ ad, A' = some ad → ad.block = gd) ∧ (∀ k, k < pre.length → Wr.goes k l = true) ∧ W.heap.size ≤ wr.heap.size ∧ J pre wr) (fun _ wr => match wr.cell? ⟨gb, 0, none⟩ with | some (.slice _ m _) => m | _ => 0)
  case atStart => exact ⟨[], A, c, by show Row W gb _ #[.slice A l.length c]; rw [HN.out]; exact hkW, by show l.length ≤ c; rw [HN.out]; exact hc, hcm, hAW, hAg, by simp, Nat.le_refl _, h0⟩
  case round =>
    obtain ⟨pre, A', c', hkr, hcl, hcM, hRr, hAg', hgo, hsz, hJs⟩ := hrel
    clear hkW hAW h0
    obtain ⟨r, hr⟩ : ∃ r, Wr.rest pre.length l = r := ⟨_, rfl⟩
    obtain ⟨R, hR0⟩ : ∃ R, Wr.splitR r = R := ⟨_, rfl⟩
    have hgs : Wr.goes pre.length l = (R.2.2 == 0 && !(R.2.1 == 0)) := by unfold Wr.goes; rw [hr, hR0]
    have hbo : Wr.body pre.length l = R.1 := by unfold Wr.body; rw [hr, hR0]
    have hsi : Wr.size pre.length l = R.2.1 := by unfold Wr.size; rw [hr, hR0]
    have hrs : Wr.rest (pre.length + 1) l = r.drop R.2.1.toNat := by rw [Wr.rest, hr, hR0]
    have hbnd := Wr.split_bounds r
    rw [hR0] at hbnd
    rw [hr] at hkr hcl hRr
    obtain ⟨n0, hn0⟩ : ∃ m, r.length = m := ⟨_, rfl⟩
    rw [hn0] at hkr hcl hbnd
    have hsp := split_any A' n0 c' r wr hn0 hcl hcM hRr
    rw [hR0] at hsp
    obtain ⟨bd, sz, er⟩ := R
    simp only at hgs hbo hsi hrs hbnd hsp
    obtain ⟨hb1, hb2, hb3⟩ := hbnd
    have hc1 : wr.cell? ⟨gb, 0, none⟩ = some (.slice A' n0 c') := (hkr.cell 0).trans rfl
    have HG := Lib.hid hgs
    have HBO := Lib.hid hbo
    have HSI := Lib.hid hsi
    have HRS := Lib.hid hrs
    have HGO := Lib.hid hgo
    have HN0 := Lib.hid hn0
    have HC1 := Lib.hid hc1
    clear hgs hbo hsi hrs hgo hn0 hr hR0
    refine wpIn_wide.2 ?_
    go_upto_region 1 with (first
      | (go_at_call 30; refine hsp.mono ?_; clear hsp; rintro e w3 ⟨v3, rfl, hown3, hL3⟩; obtain ⟨A3, c3, rfl, hc3, hcm3, hrd3⟩ := hown3.slice)
      | fail)
    have hk3 := hkr.belowAll hL3
    have hR3 := hRr.below hL3
    have hJ3 := HJ.out.below hJs (hL3.mono hsz)
    have hs3 := hL3.size
    have hgbr : gb < wr.heap.size := by omega
    clear hkr hRr hJs hL3 hc1
    by_cases he0 : er = 0
    · subst he0
      by_cases hs0 : sz = 0
      · subst hs0
        go_wp2_with fail
        rw [Exit.noGoto_normal]
        go_end0
        exact ⟨⟨_, rfl⟩, .inl ⟨pre, ⟨by rw [HG.out]; rfl, HGO.out⟩, hJ3⟩⟩
      · obtain ⟨q, rfl⟩ : ∃ q : Nat, sz = q := ⟨sz.toNat, by omega⟩
        have hz : ((q : Int) == 0) = false := by simpa using hs0
        obtain ⟨D3, hs1, hD3, hDb3⟩ := run_slice_from2 (P := Try.prog) (t := 22) (U := 5) (A := A') (n := n0) (ca := c') (k := q) Try.underlying22 byteInfo (by omega) hcl
        obtain ⟨fn, tmps, assign, body, hy, hR⟩ := HY.out pre ⟨(q : Int), A3, c3, bd, wr.heap.size⟩ w3 hJ3 ⟨by rw [HG.out, hz]; rfl, HBO.out.symm, by rw [HSI.out]; rfl, hown3, by show w.heap.size + 2 ≤ wr.heap.size; omega, hs3⟩
        refine (wpIn_wide (n := n1)).1 ?_
        have hAb : ∀ b o, A3 = some ⟨b, o, none⟩ → wr.heap.size ≤ b := fun b o e => (hown3.at_ b (by rw [e]; rfl)).1
        have HOW := Lib.hid hown3
        clear hown3 hrd3 hc3 hcm3
        gi_wp2_with fail
        refine hR.mono ?_
        rintro e W5 (⟨rfl, hJ5, hk5⟩ | ⟨rfl, hJx5, _⟩)
        · have hkr5 := hk5.row hk3 hDb (fun o e => by have := hAb gb o e; omega)
          have hRr5 := hk5.rd hR3 (fun b o e => by have := hAg' _ e; simp only at this; subst this; exact ⟨hDd, fun o' e' => by have := hAb _ o' e'; omega⟩)
          have hD5 := hD3 W5 r HN0.out hRr5
          have c5 : W5.cell? ⟨gb, 0, none⟩ = some (.slice A' n0 c') := (hkr5.cell 0).trans rfl
          have f5 : W5.frozen? ⟨gb, 0, none⟩ = false := hkr5.frozen 0
          have hsz5 := hk5.size
          clear hk3 hR3 hRr5 hy hR hk5
          gi_wp2
          go_wp2_with fail
          go_roundw
          case rel =>
            refine ⟨pre ++ [⟨(q : Int), A3, c3, bd, wr.heap.size⟩], D3, c' - q, ?_, ?_, by omega, ?_, ?_, ?_, ?_, ?_⟩
            · rw [List.length_append, List.length_singleton, HRS.out, List.length_drop, HN0.out]
              exact hkr5.set 0 _
            · rw [List.length_append, List.length_singleton, HRS.out, List.length_drop, HN0.out]
              show n0 - q ≤ c' - q
              omega
            · rw [List.length_append, List.length_singleton, HRS.out]
              exact hD5.same (Same.set W5 ⟨gb, 0, none⟩ _) fun b o e _ => by
                obtain ⟨ad', h1, h2⟩ := hDb3 _ e
                have := hAg' _ h1
                simp only at h2
                show b ≠ gb
                omega
            · intro ad e
              obtain ⟨ad', h1, h2⟩ := hDb3 _ e
              rw [← h2]
              exact hAg' _ h1
            · intro k hk
              rw [List.length_append, List.length_singleton] at hk
              by_cases e : k = pre.length
              · rw [e, HG.out, hz]; rfl
              · exact HGO.out k (by omega)
            · simp [World.setCell]; omega
            · exact HJ.out _ _ _ hJ5 ((Same.set W5 ⟨gb, 0, none⟩ _).mono fun k hk => hk.2)
          case measure =>
            have hcv : (W5.setCell ⟨gb, 0, none⟩ (.slice D3 (n0 - q) (c' - q))).cell? ⟨gb, 0, none⟩ = some (.slice D3 (n0 - q) (c' - q)) := ((hkr5.set 0 _).cell 0).trans rfl
            rw [HC1.out, hcv]
            show n0 - q < n0
            omega
        · gi_wp2
          go_wp2_with fail
          rw [Exit.noGoto_normal]
          go_end0
          exact ⟨⟨_, rfl⟩, .inr ⟨_, trivial, hJx5⟩⟩
    · have hez : (er == 0) = false := by simpa using he0
      go_wp2_with fail
      rw [Exit.noGoto_normal]
      go_end0
      exact ⟨⟨_, rfl⟩, .inl ⟨pre, ⟨by rw [HG.out, hez]; rfl, HGO.out⟩, hJ3⟩⟩
end Go.Proofs.Ytmipaacobioakaa
