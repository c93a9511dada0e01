/- Route, Plan: what its loops keep. -/
import Derived.Test.YtloiaaolnfimgaaGreatRk6a
set_option linter.unusedVariables false
set_option linter.unusedSimpArgs false
namespace Go.Proofs.YtloiaaolnfimgaaGreat
open Go.RowKit Rt
/-- The rows that Plan keeps. -/
structure PR (w : World) (q0 q1 q2 q3 q4 q5 : Nat) (a x : Int) (A : Option Addr) (n c : Nat) (h : Hop) (v : Value) (y : Int) (W : World) : Prop where
  r0 : Row W q0 2 #[.int .i64 a]
  r1 : Row W q1 2 #[.int .i64 x]
  r2 : Row W q2 40 #[.slice A n c]
  r3 : Row W q3 27 (hopC h)
  r4 : Row W q4 22 #[v]
  r5 : Row W q5 28 #[.int .i64 y]
  b : Below w.heap.size w W
theorem PR.later {w W W' : World} {q0 q1 q2 q3 q4 q5 : Nat} {a x : Int} {A : Option Addr} {n c : Nat} {h : Hop} {v : Value} {y : Int} (p : PR w q0 q1 q2 q3 q4 q5 a x A n c h v y W) (hL : Later W W') : PR w q0 q1 q2 q3 q4 q5 a x A n c h v y W' :=
  ⟨p.r0.later hL, p.r1.later hL, p.r2.later hL, p.r3.later hL, p.r4.later hL, p.r5.later hL, p.b.trans (hL.below.mono p.b.size)⟩
theorem allocHops (w : World) : (Instr.alloc 22 true (.tuple #[])).run Tryz.prog w = .ok (.pointer (some ⟨w.heap.size, 0, none⟩)) (w.alloc (.cells #[.slice none 0 0] 22)) := by kernel_rfl
theorem newEdge (w : World) {e : Rt.Edge} (hw : e.wf) : ∃ w', (Instr.storeAt 44 (.pointer (some ⟨w.heap.size, 0, none⟩)) (.agg (edgeC e))).run Tryz.prog (w.alloc (.cells (edgeC noEdge) 44)) = .ok () w' ∧ Row w' w.heap.size 44 (edgeC e) ∧ Later w w' := by
  have hz : noEdge.wf := ⟨zh_len, zh_len⟩
  obtain ⟨w', h1, h2, h3⟩ := run_put_row (P := Tryz.prog) (T := 44) (vs := edgeC e) (Row.new w 44 (edgeC noEdge)) (by rw [edgeC_size hw, edgeC_size hz]) (by rw [edgeC_size hw]; exact infoEdge) (edgeC_one e)
  exact ⟨w', h1, h2, Below.grown (below_new w _) h3 (by simp) (fun j e => by cases e; exact Nat.le_refl _)⟩
theorem allocEdge (w : World) : (Instr.alloc 44 true (.tuple #[])).run Tryz.prog w = .ok (.pointer (some ⟨w.heap.size, 0, none⟩)) (w.alloc (.cells (edgeC noEdge) 44)) := by kernel_rfl
theorem PR.grown {w W W' : World} {q0 q1 q2 q3 q4 q5 : Nat} {a x : Int} {A : Option Addr} {n c : Nat} {h : Hop} {v : Value} {y : Int} (p : PR w q0 q1 q2 q3 q4 q5 a x A n c h v y W) {row : Option Nat} (hg : W.grownBy W' row) (hr : ∀ j, row = some j → w.heap.size ≤ j ∧ q0 ≠ j ∧ q1 ≠ j ∧ q2 ≠ j ∧ q3 ≠ j ∧ q4 ≠ j ∧ q5 ≠ j) : PR w q0 q1 q2 q3 q4 q5 a x A n c h v y W' :=
  ⟨p.r0.grown hg (fun e => (hr _ e.symm).2.1 rfl), p.r1.grown hg (fun e => (hr _ e.symm).2.2.1 rfl), p.r2.grown hg (fun e => (hr _ e.symm).2.2.2.1 rfl), p.r3.grown hg (fun e => (hr _ e.symm).2.2.2.2.1 rfl), p.r4.grown hg (fun e => (hr _ e.symm).2.2.2.2.2.1 rfl), p.r5.grown hg (fun e => (hr _ e.symm).2.2.2.2.2.2 rfl), Below.grown p.b hg p.b.size (fun j e => (hr j e).1)⟩
def feeL (f : Fee1) : List Value := [numV f.1, numV f.2]
theorem feeL_ok (f : Fee1) : (feeL f).length = 2 ∧ ∀ u ∈ feeL f, u.oneCell' = true := ⟨rfl, fun u hu => by simp [feeL] at hu; rcases hu with rfl | rfl <;> rfl⟩
theorem feesC_eq : ∀ fs : List Fee1, feesC fs = (fs.map feeL).flatten
  | [] => rfl
  | f :: fs => by rw [feesC, feesC_eq fs, List.map_cons, List.flatten_cons]; rfl
theorem infoFeeF : (Tryz.prog.info? 42).map (fun i => (i.zero, i.size, i.bytes)) = some (some (Value.agg #[.int .i64 0, .int .i64 0]), 2, 16) := by kernel_rfl
theorem buildFee1 (b r : Int) (W : World) : (Instr.buildSlice 97 1 #[(0, .agg #[.int .i64 b, .int .i64 r])]).run Tryz.prog W = .ok (.slice (some ⟨W.heap.size, 0, none⟩) 1 1) (W.alloc (.cells #[.int .i64 b, .int .i64 r] 42)) := by kernel_rfl
theorem takeS_zero (b r : Int) : (takeS b r 0).2 = if rightF (b, r) then 0 else 2 := by
  unfold takeS rightF
  cases h : (amts [b] && okRate r)
  · simp
  · have h' := h
    simp only [Bool.and_eq_true] at h'
    have hs : shareS 0 r = (0, 0) := by
      unfold shareS
      rw [h'.2]
      simp [amts, bad, maxAmt]
    rw [hs]
    have hb : addS [b, 0] = (b, 0) := by
      have h1 := okAmt_iff h'.1
      have h2 : amts [b, 0] = true := by simp [amts, bad, maxAmt]; omega
      rw [amts_sum h2 (by simp [maxAmt]; omega)]
      simp
    simp [hb]
theorem eqlE (a b : Int) (W : World) : (binOp .eql 28 (.int .i64 a) (.int .i64 b)).run Tryz.prog W = .ok (.bool (a == b)) W := by kernel_rfl
theorem allocInts (w : World) : (Instr.alloc 101 true (.tuple #[])).run Tryz.prog w = .ok (.pointer (some ⟨w.heap.size, 0, none⟩)) (w.alloc (.cells #[.slice none 0 0] 101)) := by kernel_rfl
def oneSl (cs : Array Value) : Prop := ∃ A n c, cs = #[.slice A n c]
theorem RdV.put1 {W W' : World} {A : Option Addr} {zs : List Int} {B0 : Nat} (h : RdV W A (zs.map numV)) (hp : Put1 B0 101 oneSl W W') : RdV W' A (zs.map numV) := by
  obtain ⟨g, cs, cs', _, hC, _, hr, _, hg⟩ := hp
  refine h.keep fun b ⟨o, e⟩ hne hb => hg.block b hb fun e2 => ?_
  have e3 := Option.some.inj e2
  subst e3
  obtain ⟨b', o', e4, hc⟩ := h.at_ (k := 0) (List.length_pos_iff.2 hne)
  rw [e] at e4
  injection e4 with e4
  injection e4 with e5 e6
  subst e5
  have h5 := (hr.cell (o' + 0)).symm.trans hc
  rw [List.getElem_map] at h5
  obtain ⟨A1, n1, c1, rfl⟩ := hC
  rcases o' with _ | o'
  · cases h5
  · rw [Array.getElem?_eq_none (by simp)] at h5
    cases h5
/-- A slice of these numbers, in a block from B0 on. -/
def NumsAt (B0 : Nat) (S : List Int) (B : Option Addr) (W : World) : Prop := RdV W B (S.map numV) ∧ ∀ b o, B = some ⟨b, o, none⟩ → B0 ≤ b
theorem NumsAt.later {B0 : Nat} {S : List Int} {B : Option Addr} {W W' : World} (h : NumsAt B0 S B W) (hL : Later W W') : NumsAt B0 S B W' := ⟨h.1.later hL, h.2⟩
def Pr.sent (B0 m : Nat) (er : Int) (S : List Int) : Pr := ⟨fun v W => ∃ B c', v = .tuple #[.slice B m c', .int .i64 er] ∧ NumsAt B0 S B W, fun _ _ _ ⟨B, c', e, h⟩ hL => ⟨B, c', e, h.later hL⟩⟩
def Pr.nsl (B0 m : Nat) (S : List Int) : Pr := ⟨fun v W => ∃ B c', v = .slice B m c' ∧ NumsAt B0 S B W, fun _ _ _ ⟨B, c', e, h⟩ hL => ⟨B, c', e, h.later hL⟩⟩
theorem storeInts1 {W : World} {g m c' : Nat} {B : Option Addr} {cs : Array Value} (hz : oneSl cs) (hr : Row W g 101 cs) : (Instr.storeAt 101 (.pointer (some ⟨g, 0, none⟩)) (.slice B m c')).run Tryz.prog W = .ok () (W.setCell ⟨g, 0, none⟩ (.slice B m c')) := by
  obtain ⟨A1, n1, c1, rfl⟩ := hz
  have h0 : W.cell? ⟨g, 0, none⟩ = some (.slice A1 n1 c1) := (hr.cell 0).trans rfl
  have h1 := hr.frozen 0
  go_simp
theorem storeErr1 {W : World} {g : Nat} {v : Value} {z : Int} (hr : Row W g 28 #[v]) : (Instr.storeAt 28 (.pointer (some ⟨g, 0, none⟩)) (.int .i64 z)).run Tryz.prog W = .ok () (W.setCell ⟨g, 0, none⟩ (.int .i64 z)) := by
  have h0 : W.cell? ⟨g, 0, none⟩ = some v := (hr.cell 0).trans rfl
  have h1 := hr.frozen 0
  go_simp
theorem RdV.tail2 {W : World} {A : Option Addr} {a b : Value} {vs : List Value} (h : RdV W A (a :: b :: vs)) : RdV W (A.map (·.add (1 * 2))) vs := fun _ => by
  obtain ⟨b', o, rfl, hc⟩ := h (by simp)
  refine ⟨b', o + 2, by simp [addr_add], fun i hi => ?_⟩
  have := hc (i + 2) (by simpa using hi)
  rw [show o + 2 + i = o + (i + 2) by omega]
  simpa using this
theorem slice_fees {A : Option Addr} {n ca : Nat} (h1 : 1 ≤ n) (h2 : n ≤ ca) : ∃ D, (∀ w : World, (Instr.slice 97 (.slice A n ca) (some (.int .i64 1)) none none).run Tryz.prog w = .ok (.slice D (n - 1) (ca - 1)) w) ∧ ∀ (W : World) (fs : List Fee1), fs.length = n → RdV W A (feesC fs) → RdV W D (feesC fs.tail) := by
  obtain ⟨i, hi0, he⟩ := Option.map_eq_some_iff.1 infoFeeF
  injection he with hz he
  injection he with hsz hby
  have he : Tryz.prog.elem 97 = 42 := by simp [Program.elem, Tryz.underlying97]
  refine ⟨if ca = 1 then A else A.map (·.add (1 * 2)), fun w => ?_, fun W fs hl hr => ?_⟩
  · rw [run_slice_l w 97 A n ca (by rw [he]; exact Tryz.underlying97) .i64 (1 : Int) (by omega) (by omega), he]
    simp [sizeOf, typeInfo, hi0, hsz, sliced]
  · match fs, hl with
    | [], hl => simp at hl; omega
    | f :: fs, hl =>
      by_cases hc : ca = 1
      · have : fs = [] := List.eq_nil_of_length_eq_zero (by simp at hl; omega)
        subst this
        exact RdV.nil _ _
      · rw [if_neg hc]
        exact RdV.tail2 hr
theorem Recs.rdv {z : Nat} (hz0 : 0 < z) {W : World} {A : Option Addr} {ls : List (List Value)} (h : Recs z W A ls) (hz : ∀ l ∈ ls, l.length = z) : RdV W A ls.flatten := fun hne => by
  have hne' : ls ≠ [] := fun e => hne (by rw [e]; rfl)
  obtain ⟨b, o, rfl, hc⟩ := h hne'
  have hkl := rec_len z ls hz
  refine ⟨b, o, rfl, fun j hj => ?_⟩
  have hjl : j < ls.length * z := by rw [← hkl]; exact hj
  have hq : j / z < ls.length := Nat.div_lt_of_lt_mul (by rw [Nat.mul_comm]; exact hjl)
  have hr : j % z < z := Nat.mod_lt _ hz0
  have e : j / z * z + j % z = j := Nat.div_add_mod' j z
  have h1 := rec_at z ls hz (j / z) hq (j % z) hr
  rw [e, List.getElem?_eq_getElem hj] at h1
  have h2 := hc (j / z) hq (j % z) _ h1.symm
  rwa [Nat.add_assoc, e] at h2
theorem putOk_sent {B0 B1 m : Nat} {er : Int} {S : List Int} : PutOk B0 101 oneSl (Pr.sent B1 m er S) := fun _ _ _ ⟨B, c', e, h⟩ hp => ⟨B, c', e, h.1.put1 hp, h.2⟩
theorem putOk_nsl {B0 B1 m : Nat} {S : List Int} : PutOk B0 101 oneSl (Pr.nsl B1 m S) := fun _ _ _ ⟨B, c', e, h⟩ hp => ⟨B, c', e, h.1.put1 hp, h.2⟩
set_option maxRecDepth 100000 in
theorem makeHops (n : Nat) (hn : n ≤ 6) (w : World) : (Instr.makeSlice 22 (.int .i64 (n : Int)) (.int .i64 (n : Int))).run Tryz.prog w = .ok (.slice (some ⟨w.heap.size, 0, none⟩) n n) (w.alloc (.cells (List.replicate n (hopL noHop)).flatten.toArray 27)) := by
  rcases n with _ | _ | _ | _ | _ | _ | _ | n
  · kernel_rfl
  · kernel_rfl
  · kernel_rfl
  · kernel_rfl
  · kernel_rfl
  · kernel_rfl
  · kernel_rfl
  · omega
theorem Row.put_setCell {W : World} {g q : Nat} {T U : TypeId} {cs ds : Array Value} (hr : Row W g T cs) (hq : Row W q U ds) (h : g ≠ q) (v : Value) : Row (W.setCell ⟨q, 0, none⟩ v) g T cs := hr.far (p := ⟨q, 0, none⟩) h v
theorem wpIn_name {F : Fence} {n : Nat} {P : Program} {c : Code} {Q : Exit → Act → World → Prop} {tm : Array Value} {d : List Deferred} {w : World} (h : ∀ T, T = tm → c.wpIn F n P Q { tmps := T, defers := d } w) : c.wpIn F n P Q { tmps := tm, defers := d } w := h tm rfl
/-- The first step as so many edges, from behind, have been gone over. -/
def frst (x : Int) (S : List Int) (l : List Rt.Edge) (j : Nat) : Hop := if j = 0 then noHop else firstAt x S l (l.length - j)
def stL (a x : Int) (S : List Int) (l : List Rt.Edge) (j : Nat) : List Value := ((List.range' (l.length - j) j).map fun i => hopL (stepAt a x S l i)).flatten
/-- What Plan's second loop keeps. -/
structure PJ (w : World) (q0 q1 q2 q3 q4 q5 g14 gst : Nat) (a x : Int) (A : Option Addr) (n c : Nat) (l : List Rt.Edge) (S : List Int) (B : Option Addr) (c' : Nat) (j : Nat) (X : World) : Prop where
  pr : PR w q0 q1 q2 q3 q4 q5 a x A n c (frst x S l j) (.slice (some ⟨gst, 0, none⟩) n n) 0 X
  k14 : Row X g14 101 #[.slice B n c']
  st : Row X gst 27 ((List.replicate (n - j) (hopL noHop)).flatten ++ stL a x S l j).toArray
  nums : RdV X B (S.map numV)
theorem PR.same {w W W' : World} {q0 q1 q2 q3 q4 q5 : Nat} {a x : Int} {A : Option Addr} {n c : Nat} {h : Hop} {v : Value} {y : Int} (p : PR w q0 q1 q2 q3 q4 q5 a x A n c h v y W) {B : Nat} (hs : Same (fun k => k < B ∧ ¬ False) W W') (h0 : q0 < B ∧ q1 < B ∧ q2 < B ∧ q3 < B ∧ q4 < B ∧ q5 < B) (hB : w.heap.size ≤ B) : PR w q0 q1 q2 q3 q4 q5 a x A n c h v y W' :=
  ⟨p.r0.same hs ⟨h0.1, id⟩, p.r1.same hs ⟨h0.2.1, id⟩, p.r2.same hs ⟨h0.2.2.1, id⟩, p.r3.same hs ⟨h0.2.2.2.1, id⟩, p.r4.same hs ⟨h0.2.2.2.2.1, id⟩, p.r5.same hs ⟨h0.2.2.2.2.2, id⟩, p.b.trans (Same.below (hs.mono fun k hk => ⟨Nat.lt_of_lt_of_le hk hB, id⟩))⟩
theorem PJ.same {w W W' : World} {q0 q1 q2 q3 q4 q5 g14 gst : Nat} {a x : Int} {A : Option Addr} {n c : Nat} {l : List Rt.Edge} {S : List Int} {B : Option Addr} {c' j : Nat} (p : PJ w q0 q1 q2 q3 q4 q5 g14 gst a x A n c l S B c' j W) {B0 : Nat} (hs : Same (fun k => k < B0 ∧ ¬ False) W W') (h0 : q0 < B0 ∧ q1 < B0 ∧ q2 < B0 ∧ q3 < B0 ∧ q4 < B0 ∧ q5 < B0) (hB : w.heap.size ≤ B0) (h14 : g14 < B0) (hst : gst < B0) (hn : ∀ b o, B = some ⟨b, o, none⟩ → b < B0) : PJ w q0 q1 q2 q3 q4 q5 g14 gst a x A n c l S B c' j W' :=
  ⟨p.pr.same hs h0 hB, p.k14.same hs ⟨h14, id⟩, p.st.same hs ⟨hst, id⟩, p.nums.same hs (fun b o e _ _ => ⟨hn b o e, id⟩)⟩
end Go.Proofs.YtloiaaolnfimgaaGreat
