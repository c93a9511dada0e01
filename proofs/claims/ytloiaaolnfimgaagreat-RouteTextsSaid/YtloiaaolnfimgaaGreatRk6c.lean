/- Walks, route: a round of Plan's second loop. -/
import Derived.Test.YtloiaaolnfimgaaGreatRk6b
set_option linter.unusedVariables false
set_option linter.unusedSimpArgs false
namespace Go.Proofs.YtloiaaolnfimgaaGreat
open Go.RowKit Rt
attribute [local go_sem] Oper.semAt_some
/-- The first range over a function in a function's code. -/
def rngBody : Code → Option Code
  | .rangeFunc _ _ _ b => some b
  | .seq a b => match rngBody a with
    | some c => some c
    | none => rngBody b
  | .cond _ a b => match rngBody a with
    | some c => some c
    | none => rngBody b
  | .block _ c => rngBody c
  | .loop c => rngBody c
  | .scope c => rngBody c
  | _ => none
theorem loadKeyE {w : World} {g : Nat} {t : TypeId} {e : Rt.Edge} (hw : e.wf) (hr : Row w g t (edgeC e)) : (Instr.loadAt 25 (.pointer (some ⟨g, 0, none⟩))).run Tryz.prog w = .ok (.agg (hC e.key)) w := by
  have hz := hC_size e.key (Nat.le_of_eq hw.1)
  exact run_load_part hr (fun j hj => by rw [Nat.zero_add]; exact edgeC_key hw j (by omega)) Tryz.underlying25 rfl (by rw [hz]; exact infoH)
theorem loadChanE {w : World} {g : Nat} {t : TypeId} {e : Rt.Edge} (hw : e.wf) (hr : Row w g t (edgeC e)) : (Instr.loadAt 25 (.pointer (some ⟨g, 32, none⟩))).run Tryz.prog w = .ok (.agg (hC e.chan)) w := by
  have hz := hC_size e.chan (Nat.le_of_eq hw.2)
  exact run_load_part hr (fun j hj => edgeC_chan hw j (by omega)) Tryz.underlying25 rfl (by rw [hz]; exact infoH)
/-- What a round keeps. -/
structure RQ (w : World) (q0 q1 q2 q3 q4 q5 g14 gst q16 : Nat) (a x : Int) (A : Option Addr) (n c : Nat) (S : List Int) (B : Option Addr) (c' : Nat) (ed : Rt.Edge) (h : Hop) (X : World) : Prop where
  pr : PR w q0 q1 q2 q3 q4 q5 a x A n c h (.slice (some ⟨gst, 0, none⟩) n n) 0 X
  k14 : Row X g14 101 #[.slice B n c']
  nums : RdV X B (S.map numV)
  r16 : Row X q16 44 (edgeC ed)
structure Apart (w : World) (q0 q1 q2 q3 q4 q5 g14 gst q16 : Nat) (B : Option Addr) : Prop where
  a0 : w.heap.size ≤ gst ∧ w.heap.size ≤ q3
  a1 : q0 ≠ gst ∧ q1 ≠ gst ∧ q2 ≠ gst ∧ q3 ≠ gst ∧ q4 ≠ gst ∧ q5 ≠ gst ∧ g14 ≠ gst ∧ q16 ≠ gst
  a3 : q0 ≠ q3 ∧ q1 ≠ q3 ∧ q2 ≠ q3 ∧ q4 ≠ q3 ∧ q5 ≠ q3 ∧ g14 ≠ q3 ∧ q16 ≠ q3
  ab : ∀ b o, B = some ⟨b, o, none⟩ → b ≠ gst ∧ b ≠ q3
section
variable {w X X' : World} {q0 q1 q2 q3 q4 q5 g14 gst q16 : Nat} {a x : Int} {A : Option Addr} {n c : Nat} {S : List Int} {B : Option Addr} {c' : Nat} {ed : Rt.Edge} {h h' : Hop}
theorem RQ.later (r : RQ w q0 q1 q2 q3 q4 q5 g14 gst q16 a x A n c S B c' ed h X) (hL : Later X X') : RQ w q0 q1 q2 q3 q4 q5 g14 gst q16 a x A n c S B c' ed h X' :=
  ⟨r.pr.later hL, r.k14.later hL, r.nums.later hL, r.r16.later hL⟩
theorem RQ.inst (r : RQ w q0 q1 q2 q3 q4 q5 g14 gst q16 a x A n c S B c' ed h X) (ap : Apart w q0 q1 q2 q3 q4 q5 g14 gst q16 B) (hg : X.grownBy X' (some gst)) : RQ w q0 q1 q2 q3 q4 q5 g14 gst q16 a x A n c S B c' ed h X' := by
  obtain ⟨h0, h1, h2, h3, h4, h5, h6, h7⟩ := ap.a1
  refine ⟨r.pr.grown hg (fun j e => by cases e; exact ⟨ap.a0.1, h0, h1, h2, h3, h4, h5⟩), r.k14.grown hg (fun e => h6 (Option.some.inj e)), r.nums.keep (fun b ⟨o, e⟩ _ hb => hg.block b hb (fun e2 => (ap.ab b o e).1 (Option.some.inj e2))), r.r16.grown hg (fun e => h7 (Option.some.inj e))⟩
theorem RQ.in3 (r : RQ w q0 q1 q2 q3 q4 q5 g14 gst q16 a x A n c S B c' ed h X) (ap : Apart w q0 q1 q2 q3 q4 q5 g14 gst q16 B) (hg : X.grownBy X' (some q3)) (hr : Row X' q3 27 (hopC h')) : RQ w q0 q1 q2 q3 q4 q5 g14 gst q16 a x A n c S B c' ed h' X' := by
  obtain ⟨h0, h1, h2, h4, h5, h6, h7⟩ := ap.a3
  have f : ∀ {g : Nat}, g ≠ q3 → some g ≠ some q3 := fun hn e => hn (Option.some.inj e)
  exact ⟨⟨r.pr.r0.grown hg (f h0), r.pr.r1.grown hg (f h1), r.pr.r2.grown hg (f h2), hr, r.pr.r4.grown hg (f h4), r.pr.r5.grown hg (f h5), Below.grown r.pr.b hg r.pr.b.size (fun j e => by cases e; exact ap.a0.2)⟩, r.k14.grown hg (f h6), r.nums.keep (fun b ⟨o, e⟩ _ hb => hg.block b hb (fun e2 => (ap.ab b o e).2 (Option.some.inj e2))), r.r16.grown hg (f h7)⟩
end
theorem loadNums {b o : Nat} {v : Value} {W : World} (hc : W.cell? ⟨b, o, none⟩ = some v) : (Instr.loadAt 101 (.pointer (some ⟨b, o, none⟩))).run Tryz.prog W = .ok v W := by
  go_simp
/-- The first step, field by field. -/
def hopAt (h0 : Hop) (ed : Rt.Edge) (s : Int) : Nat → Hop
  | 0 => h0
  | 1 => noHop
  | 2 => ⟨ed.key, zh, 0, 0⟩
  | 3 => ⟨ed.key, ed.chan, 0, 0⟩
  | _ => ⟨ed.key, ed.chan, s, 0⟩
theorem hopAt_wf {h0 : Hop} {ed : Rt.Edge} {s : Int} (h : h0.wf) (he : ed.wf) : ∀ k, (hopAt h0 ed s k).wf
  | 0 => h
  | 1 => noHop_wf
  | 2 => ⟨he.1, zh_len⟩
  | 3 => ⟨he.1, he.2⟩
  | _ + 4 => ⟨he.1, he.2⟩
structure CI (w : World) (q0 q1 q2 q3 q4 q5 g14 gst q16 : Nat) (a x : Int) (A : Option Addr) (n c : Nat) (S : List Int) (B : Option Addr) (c' : Nat) (ed : Rt.Edge) (X : World) (h : Hop) (ST : Array Value) (W : World) : Prop where
  r : RQ w q0 q1 q2 q3 q4 q5 g14 gst q16 a x A n c S B c' ed h W
  t : Row W gst 27 ST
  k : KeepB (fun b => b = q3 ∨ b = gst) X W
theorem CI.later {w X W W' : World} {q0 q1 q2 q3 q4 q5 g14 gst q16 : Nat} {a x : Int} {A : Option Addr} {n c : Nat} {S : List Int} {B : Option Addr} {c' : Nat} {ed : Rt.Edge} {h : Hop} {ST : Array Value} (i : CI w q0 q1 q2 q3 q4 q5 g14 gst q16 a x A n c S B c' ed X h ST W) (hL : Later W W') : CI w q0 q1 q2 q3 q4 q5 g14 gst q16 a x A n c S B c' ed X h ST W' :=
  ⟨i.r.later hL, i.t.later hL, i.k.trans (KeepB.later hL)⟩
theorem CI.put {w X W W' : World} {q0 q1 q2 q3 q4 q5 g14 gst q16 : Nat} {a x : Int} {A : Option Addr} {n c : Nat} {S : List Int} {B : Option Addr} {c' : Nat} {ed : Rt.Edge} {h h' : Hop} {ST : Array Value} (i : CI w q0 q1 q2 q3 q4 q5 g14 gst q16 a x A n c S B c' ed X h ST W) (ap : Apart w q0 q1 q2 q3 q4 q5 g14 gst q16 B) (hg : W.grownBy W' (some q3)) (hr : Row W' q3 27 (hopC h')) : CI w q0 q1 q2 q3 q4 q5 g14 gst q16 a x A n c S B c' ed X h' ST W' :=
  ⟨i.r.in3 ap hg hr, i.t.grown hg (fun e => ap.a1.2.2.2.1 (Option.some.inj e).symm), i.k.trans (KeepB.grown hg (.inl rfl))⟩
theorem add64 {x y : Int} {W : World} (h1 : -9223372036854775808 ≤ x + y) (h2 : x + y ≤ 9223372036854775807) : (binOp .add 2 (.int .i64 x) (.int .i64 y)).run Tryz.prog W = .ok (.int .i64 (x + y)) W := by
  have h' : (binOp .add 2 (.int .i64 x) (.int .i64 y)).run Tryz.prog W = .ok (.int .i64 (IntKind.i64.wrap (x + y))) W := by kernel_rfl
  rw [h', IntWalk.i64_in _ (by omega)]
set_option maxRecDepth 100000 in
set_option maxHeartbeats 4000000 in
theorem plan_round (cd : Code) (hcd : ((Tryz.prog.funcs[(14 : Nat)]?.bind (·.body)).bind rngBody) = some cd) (w : World) (q0 q1 q2 q3 q4 q5 g14 gst q16 : Nat) (a x : Int) (A : Option Addr) (n c : Nat) (l : List Rt.Edge) (S : List Int) (B : Option Addr) (c' j i l0 n1 : Nat) (X : World) (ed : Rt.Edge) (hed : l[i]? = some ed) (hw : ∀ e ∈ l, e.wf) (hn : l.length = n) (hij : i + 1 + j = n) (hn6 : n ≤ 6) (hS : S.length = n) (hok : l.all okE = true) (hx : 1 ≤ x ∧ x ≤ 2147483647)
    (ap : Apart w q0 q1 q2 q3 q4 q5 g14 gst q16 B) (hA : ∀ Y, Below w.heap.size w Y → Recs 67 Y A (l.map edgeL)) (r : RQ w q0 q1 q2 q3 q4 q5 g14 gst q16 a x A n c S B c' ed (frst x S l j) X) (hst : Row X gst 27 (stRow i (hopL noHop) (stL a x S l j)))
    (Q : Exit → Act → World → Prop) (hQ : expAt x l i ≤ 2147483647 → ∀ a' Y, RQ w q0 q1 q2 q3 q4 q5 g14 gst q16 a x A n c S B c' ed (firstAt x S l i) Y → Row Y gst 27 (stRow i (hopL (stepAt a x S l i)) (stL a x S l j)) → KeepB (fun b => b = q3 ∨ b = gst) X Y → Q .normal a' Y)
    (hP : ¬ expAt x l i ≤ 2147483647 → ∀ a' Y, a'.defers = [] → RQ w q0 q1 q2 q3 q4 q5 g14 gst q16 a x A n c S B c' ed (firstAt x S l i) Y → KeepB (fun b => b = q3 ∨ b = gst) X Y → Q (.panic (gaveUp 150)) a' Y)
    (u0 u1 u2 u8 u9 u10 u11 u12 u13 u17 u18 u19 u20 u21 u22 u23 u24 u25 u26 u27 u28 u29 u30 u31 u32 u33 u34 u35 u36 u37 u38 u39 u40 u41 u42 u43 u44 u45 u46 u47 u48 u49 u50 u51 u52 u53 u54 u55 u56 u57 u58 u59 u60 u61 u62 u63 u64 u65 u66 u67 u68 u69 u70 u71 u72 u73 u74 u75 u76 u77 u78 u79 u80 u81 u82 u83 u84 u85 u86 u87 u88 u89 u90 u91 u92 u93 u94 u95 u96 u97 u98 u99 u100 u101 u102 u103 u104 u105 u106 u107 u108 u109 u110 u111 u112 u113 u114 u115 u116 u117 u118 u119 u120 u121 u122 u123 u124 u125 u126 u127 u128 u129 : Value) :
    cd.wpIn (Fence.wide.inRound l0) n1 Tryz.prog Q { tmps := #[u0, u1, u2, .pointer (some ⟨q0, 0, none⟩), .pointer (some ⟨q1, 0, none⟩), .pointer (some ⟨q2, 0, none⟩), .pointer (some ⟨q3, 0, none⟩), .pointer (some ⟨q4, 0, none⟩), u8, u9, u10, u11, u12, u13, .pointer (some ⟨g14, 0, none⟩), .int .i64 (i : Int), .pointer (some ⟨q16, 0, none⟩), u17, u18, u19, u20, u21, u22, u23, u24, u25, u26, u27, u28, u29, u30, u31, u32, u33, u34, u35, u36, u37, u38, u39, u40, u41, u42, u43, u44, u45, u46, u47, u48, u49, u50, u51, u52, u53, u54, u55, u56, u57, u58, u59, u60, u61, u62, u63, u64, u65, u66, u67, u68, u69, u70, u71, u72, u73, u74, u75, u76, u77, u78, u79, u80, u81, u82, u83, u84, u85, u86, u87, u88, u89, u90, u91, u92, u93, u94, u95, u96, u97, u98, u99, u100, u101, u102, u103, u104, u105, u106, u107, u108, u109, u110, u111, u112, u113, u114, u115, u116, u117, u118, u119, u120, u121, u122, u123, u124, u125, u126, u127, u128, u129], defers := [] } X := by
  conv at hcd => lhs; whnf
  injection hcd with hcd
  subst hcd
  have hil : i < l.length := by rw [hn]; omega
  have he : l[i] = ed := by rw [List.getElem?_eq_getElem hil] at hed; exact Option.some.inj hed
  have hew : ed.wf := by rw [← he]; exact hw _ (List.getElem_mem hil)
  have l7 := loadHops ((r.pr.r4.cell 0).trans rfl)
  have lk := loadKeyE hew r.r16
  have c0 : X.cell? ⟨q0, 0, none⟩ = some (.int .i64 a) := (r.pr.r0.cell 0).trans rfl
  have c1 : X.cell? ⟨q1, 0, none⟩ = some (.int .i64 x) := (r.pr.r1.cell 0).trans rfl
  have ix := fun W => idxHop (b := gst) (o := 0) (n := n) (c := n) (i := i) W (by omega)
  have bld := fun W => buildHopK hew.1 a x W
  have hw1 : (⟨ed.key, zh, a, x⟩ : Hop).wf := ⟨hew.1, zh_len⟩
  obtain ⟨X1, s1, t1, g1⟩ := storeStep hw1 (hopL_len noHop_wf) hst
  have r1 := r.inst ap g1
  have K1 : KeepB (fun b => b = q3 ∨ b = gst) X X1 := KeepB.grown g1 (.inr rfl)
  have wr1 : IntKind.i64.wrap ((i : Int) + 1) = (i : Int) + 1 := IntWalk.i64_in _ (by omega)
  have l5 := fun Y (h : RQ w q0 q1 q2 q3 q4 q5 g14 gst q16 a x A n c S B c' ed (frst x S l j) Y) => loadEdges ((h.pr.r2.cell 0).trans rfl)
  have hcS0 := r.nums
  obtain ⟨bB, oB, rfl, -⟩ := hcS0.at_ (k := i) (by rw [List.length_map, hS]; omega)
  have hcS : ∀ W, RdV W (some ⟨bB, oB, none⟩) (S.map numV) → W.cell? ⟨bB, oB + i, none⟩ = some (.int .i64 (S.getD i 0)) := fun W h => by
    obtain ⟨b', o', e', hc⟩ := h.at_ (k := i) (by rw [List.length_map, hS]; omega)
    injection e' with e'
    injection e' with e1 e2
    subst e1 e2
    rw [hc, List.getElem_map, getD_lt (by omega)]
  clear hcS0
  have T1 := Lib.hid t1
  have G1 := Lib.hid g1
  have HQ := Lib.hid hQ
  have HP := Lib.hid hP
  have R1 := Lib.hid r1
  have KK1 := Lib.hid K1
  have l51 := l5 _ r1
  clear t1 g1 hQ hP K1 hst hed l5
  by_cases hj : j = 0
  · have hd : decide ((i : Int) + 1 < (n : Int)) = false := decide_eq_false (by omega)
    gi_wp2_with (first
      | (refine wpListIn_loadG rfl 22 (.tmp 7) rfl (.pointer (some ⟨q4, 0, none⟩)) rfl l7 ?_)
      | (refine wpListIn_fieldG rfl 44 (.tmp 16) 0 rfl (.pointer (some ⟨q16, 0, none⟩)) rfl fEdge0 ?_)
      | (refine wpListIn_loadG rfl 25 (.tmp 72) rfl (.pointer (some ⟨q16, 0, none⟩)) rfl lk ?_)
      | (refine wpListIn_buildG rfl 27 _ rfl #[(0, .agg (hC ed.key)), (2, .int .i64 a), (3, .int .i64 x)] (by simp only [List.map_toArray, List.map_cons, List.map_nil]; rfl) (bld _) ?_)
      | (refine wpListIn_idxG rfl 22 _ _ rfl (.slice (some ⟨gst, 0, none⟩) n n) (.int .i64 (i : Int)) rfl rfl (ix _) ?_)
      | (refine wpListIn_storeG rfl 27 (.tmp 77) (.tmp 76) rfl (.pointer (some ⟨gst, 0 + i * 66, none⟩)) (.agg (hopC ⟨ed.key, zh, a, x⟩)) rfl rfl s1 ?_)
      | (refine wpListIn_loadG rfl 40 (.tmp 5) rfl (.pointer (some ⟨q2, 0, none⟩)) rfl l51 ?_)
      | fail)
    have hss : stepAt a x S l i = ⟨ed.key, zh, a, x⟩ := by
      unfold stepAt
      rw [if_neg (by omega), getD_lt hil, he]
    have hfw : (frst x S l j).wf := by subst hj; exact noHop_wf
    have hCI : CI w q0 q1 q2 q3 q4 q5 g14 gst q16 a x A n c S (some ⟨bB, oB, none⟩) c' ed X (hopAt (frst x S l j) ed (S.getD i 0) 0) (stRow i (hopL (stepAt a x S l i)) (stL a x S l j)) X1 := ⟨R1.out, by rw [hss]; exact T1.out, KK1.out⟩
    refine wpIn_region_chain (wide_round l0) [.pointer (some ⟨q16, 0, none⟩), .agg (hC ed.key), .pointer (some ⟨q16, 32, none⟩), .agg (hC ed.chan), .slice (some ⟨bB, oB, none⟩) n c', .int .i64 (i : Int), .pointer (some ⟨bB, oB + i, none⟩), .int .i64 (S.getD i 0), .int .i64 x, undef, .pointer (some ⟨q3, 0, none⟩), undef, .pointer (some ⟨q3, 32, none⟩), undef, .pointer (some ⟨q3, 64, none⟩), undef, .pointer (some ⟨q3, 65, none⟩)] [9, 11, 13, 15] (fun m W => CI w q0 q1 q2 q3 q4 q5 g14 gst q16 a x A n c S (some ⟨bB, oB, none⟩) c' ed X (hopAt (frst x S l j) ed (S.getD i 0) m) (stRow i (hopL (stepAt a x S l i)) (stL a x S l j)) W) (fun m W W' hL h => h.later hL) hCI (by kernel_rfl) (by kernel_rfl) (by kernel_rfl) (by kernel_rfl) (by kernel_rfl) (by kernel_rfl) rfl (by decide) rfl ⟨?_, ?_, ?_, ?_, ?_, ?_, ?_, ?_, ?_, ?_, ?_, ?_, ?_, ?_, ?_, ?_, ?_, trivial⟩ ?_
    · exact chStep_val rfl (fun ac W m he hA => stepOk_want rfl (op_fieldAddr rfl (he.keep (.tmp 16) (by kernel_rfl)) fEdge0 rfl))
    · exact chStep_val rfl (fun ac W m he hA => stepOk_want rfl (op_load rfl (show ac.eval (.tmp 93) = .pointer (some ⟨q16, 0, none⟩) from he.val 0 93 (by kernel_rfl) rfl rfl) (loadKeyE hew hA.r.r16) rfl))
    · exact chStep_val rfl (fun ac W m he hA => stepOk_want rfl (op_fieldAddr rfl (he.keep (.tmp 16) (by kernel_rfl)) fEdge1 rfl))
    · exact chStep_val rfl (fun ac W m he hA => stepOk_want rfl (op_load rfl (show ac.eval (.tmp 95) = .pointer (some ⟨q16, 32, none⟩) from he.val 2 95 (by kernel_rfl) rfl rfl) (loadChanE hew hA.r.r16) rfl))
    · exact chStep_val rfl (fun ac W m he hA => stepOk_want rfl (op_load rfl (he.keep (.tmp 14) (by kernel_rfl)) (loadNums ((hA.r.k14.cell 0).trans rfl)) rfl))
    · exact chStep_val rfl (fun ac W m he hA => stepOk_want rfl (op_move rfl (he.keep (.tmp 15) (by kernel_rfl))))
    · exact chStep_val rfl (fun ac W m he hA => stepOk_want rfl (op_idx rfl (show ac.eval (.tmp 97) = .slice (some ⟨bB, oB, none⟩) n c' from he.val 4 97 (by kernel_rfl) rfl rfl) (show ac.eval (.tmp 98) = .int .i64 (i : Int) from he.val 5 98 (by kernel_rfl) rfl rfl) (idxInt (by omega) (by omega) W) rfl))
    · exact chStep_val rfl (fun ac W m he hA => stepOk_want rfl (op_load rfl (show ac.eval (.tmp 99) = .pointer (some ⟨bB, oB + i, none⟩) from he.val 6 99 (by kernel_rfl) rfl rfl) (ldI64 (hcS W hA.r.nums)) rfl))
    · exact chStep_val rfl (fun ac W m he hA => stepOk_want rfl (op_load rfl (he.keep (.tmp 4) (by kernel_rfl)) (ldI64 ((hA.r.pr.r1.cell 0).trans rfl)) rfl))
    · refine chStep_put (k := 0) rfl (.inl rfl) (fun ac W he hA => ⟨rfl, ?_⟩)
      obtain ⟨W', hs, h1, h2⟩ := storeHop (hopAt_wf hfw hew 0) noHop_wf hA.r.pr.r3
      exact op_storeK rfl (he.keep (.tmp 6) (by kernel_rfl)) (by kernel_rfl) hs ⟨undef, rfl, hA.put ap h2 h1⟩
    · exact chStep_val rfl (fun ac W m he hA => stepOk_want rfl (op_fieldAddr rfl (he.keep (.tmp 6) (by kernel_rfl)) fHop0 rfl))
    · refine chStep_put (k := 1) rfl (.inr (by kernel_rfl)) (fun ac W he hA => ⟨rfl, ?_⟩)
      have hw1 := hopAt_wf hfw hew (s := S.getD i 0) 1
      obtain ⟨W', hs, h1, h2⟩ := storeHash ed.key hew.1 hA.r.pr.r3 (o := 0) (by rw [hopC_size hw1]; decide)
      rw [hopC_setKey0 hw1 _ hew.1] at h1
      exact op_storeK rfl (show ac.eval (.tmp 102) = .pointer (some ⟨q3, 0, none⟩) from he.val 10 102 (by kernel_rfl) rfl rfl) (show ac.eval (.tmp 94) = .agg (hC ed.key) from he.val 1 94 (by kernel_rfl) rfl rfl) hs ⟨undef, rfl, hA.put ap h2 h1⟩
    · exact chStep_val rfl (fun ac W m he hA => stepOk_want rfl (op_fieldAddr rfl (he.keep (.tmp 6) (by kernel_rfl)) fHop1 rfl))
    · refine chStep_put (k := 2) rfl (.inr (by kernel_rfl)) (fun ac W he hA => ⟨rfl, ?_⟩)
      have hw1 := hopAt_wf hfw hew (s := S.getD i 0) 2
      obtain ⟨W', hs, h1, h2⟩ := storeHash ed.chan hew.2 hA.r.pr.r3 (o := 32) (by rw [hopC_size hw1]; decide)
      rw [hopC_setNext hw1 _ hew.2] at h1
      exact op_storeK rfl (show ac.eval (.tmp 103) = .pointer (some ⟨q3, 32, none⟩) from he.val 12 103 (by kernel_rfl) rfl rfl) (show ac.eval (.tmp 96) = .agg (hC ed.chan) from he.val 3 96 (by kernel_rfl) rfl rfl) hs ⟨undef, rfl, hA.put ap h2 h1⟩
    · exact chStep_val rfl (fun ac W m he hA => stepOk_want rfl (op_fieldAddr rfl (he.keep (.tmp 6) (by kernel_rfl)) fHop2 rfl))
    · refine chStep_put (k := 3) rfl (.inr (by kernel_rfl)) (fun ac W he hA => ⟨rfl, ?_⟩)
      have hw1 := hopAt_wf hfw hew (s := S.getD i 0) 3
      have hs := storeI64 (o := 64) (S.getD i 0) hA.r.pr.r3 (hopC_amt hw1)
      have h1 := hA.r.pr.r3.set 64 (.int .i64 (S.getD i 0))
      rw [hopC_setAmt hw1] at h1
      exact op_storeK rfl (show ac.eval (.tmp 104) = .pointer (some ⟨q3, 64, none⟩) from he.val 14 104 (by kernel_rfl) rfl rfl) (show ac.eval (.tmp 100) = .int .i64 (S.getD i 0) from he.val 7 100 (by kernel_rfl) rfl rfl) hs ⟨undef, rfl, hA.put ap (grown_set W q3 64 _) h1⟩
    · exact chStep_val rfl (fun ac W m he hA => stepOk_want rfl (op_fieldAddr rfl (he.keep (.tmp 6) (by kernel_rfl)) fHop3 rfl))
    intro xs W hA4 hxs hk hgt
    have hA4 : CI w q0 q1 q2 q3 q4 q5 g14 gst q16 a x A n c S (some ⟨bB, oB, none⟩) c' ed X (hopAt (frst x S l j) ed (S.getD i 0) 4) (stRow i (hopL (stepAt a x S l i)) (stL a x S l j)) W := hA4
    have hw4 := hopAt_wf hfw hew (s := S.getD i 0) 4
    have hs := storeI64 (o := 65) x hA4.r.pr.r3 (hopC_exp hw4)
    have h1 := hA4.r.pr.r3.set 65 (.int .i64 x)
    rw [hopC_setExp hw4] at h1
    have hA5 := hA4.put ap (grown_set W q3 65 (.int .i64 x)) h1
    refine last_store rfl rfl ((hgt 16 105 (by decide) (by kernel_rfl)).trans (show xs 16 = .pointer (some ⟨q3, 65, none⟩) from hxs 16 (by decide) rfl)) ((hgt 8 101 (by decide) (by kernel_rfl)).trans (show xs 8 = .int .i64 x from hxs 8 (by decide) rfl)) hs ?_
    clear hxs hk hgt hA4 hs h1 hCI
    simp only [initL, lastL, putL, Nat.reduceAdd, Act.put, List.setIfInBounds_toArray, List.set_cons_succ, List.set_cons_zero]
    generalize W.setCell ⟨q3, 65, none⟩ (.int .i64 x) = W5 at *
    have hfe : ({ hopAt (frst x S l j) ed (S.getD i 0) 4 with exp := x } : Hop) = firstAt x S l i := by
      unfold firstAt
      rw [getD_lt hil, he, expAt_last x l i (by omega)]
      rfl
    rw [hfe] at hA5
    have hex : expAt x l i = x := expAt_last x l i (by omega)
    have l5b := loadEdges ((hA5.r.pr.r2.cell 0).trans rfl)
    have c65 : W5.cell? ⟨q3, 65, none⟩ = some (.int .i64 x) := (cHop3 (by rw [← hfe]; exact hw4) hA5.r.pr.r3).trans (by rw [show (firstAt x S l i).exp = x from hex])
    have hle : decide (x ≤ 2147483647) = true := decide_eq_true hx.2
    gi_wp2_with (first
      | (refine wpListIn_loadG rfl 40 (.tmp 5) rfl (.pointer (some ⟨q2, 0, none⟩)) rfl l5b ?_)
      | (refine wpListIn_fieldG rfl 27 (.tmp 6) 3 rfl (.pointer (some ⟨q3, 0, none⟩)) rfl fHop3 ?_)
      | fail)
    refine ⟨trivial, (fun h => by cases h), (CallsIn.inRound l0 (callsIn_wide.2 (rmust_ok 150 W5))).mono ?_⟩
    rintro e W9 ⟨h7, rfl⟩
    obtain rfl := h7.symm
    gi_wp2
    exact HQ.out (by rw [hex]; exact hx.2) _ _ hA5.r hA5.t hA5.k
  · have hd : decide ((i : Int) + 1 < (n : Int)) = true := decide_eq_true (by omega)
    have hil1 : i + 1 < l.length := by omega
    obtain ⟨ed1, he1⟩ : ∃ e, l[i + 1] = e := ⟨_, rfl⟩
    obtain ⟨bA, oA, rfl, -⟩ := (hA X r.pr.b).at_ (k := i + 1) (by rw [List.length_map]; exact hil1)
    have hcdel : ∀ Y, Below w.heap.size w Y → Y.cell? ⟨bA, oA + (i + 1) * 67 + 66, none⟩ = some (.int .i64 ed1.delta) := fun Y hY => by
      obtain ⟨b', o', e', hc⟩ := (hA Y hY).at_ (k := i + 1) (by rw [List.length_map]; exact hil1)
      injection e' with e'
      injection e' with e1 e2
      subst e1 e2
      refine hc 66 _ ?_
      rw [List.getElem_map, he1, Array.getElem?_toList]
      exact (edgeC_num (by rw [← he1]; exact hw _ (List.getElem_mem hil1))).2.2
    have hfr : frst x S l j = firstAt x S l (i + 1) := by
      unfold frst
      rw [if_neg hj, hn, show n - j = i + 1 by omega]
    have hew1 := hw _ (List.getElem_mem hil1)
    have hfw : (frst x S l j).wf := by
      rw [hfr]
      unfold firstAt
      rw [getD_lt hil1]
      exact hew1
    have hss : stepAt a x S l i = { frst x S l j with key := ed.key } := by
      unfold stepAt
      rw [if_pos hil1, getD_lt hil, he, hfr]
    obtain ⟨X2, s2, t2, g2⟩ := storeStep hfw (hopL_len hw1) T1.out
    have r2 := R1.out.inst ap g2
    obtain ⟨X3, s3, t3, g3⟩ := storeStepKey hfw ed.key hew.1 t2
    have r3 := r2.inst ap g3
    have K3 : KeepB (fun b => b = q3 ∨ b = gst) X X3 := (KK1.out.trans (KeepB.grown g2 (.inr rfl))).trans (KeepB.grown g3 (.inr rfl))
    rw [← hss] at t3
    have l71 := loadHops ((R1.out.pr.r4.cell 0).trans rfl)
    have l72 := loadHops ((r2.pr.r4.cell 0).trans rfl)
    have lh := loadHopR hfw R1.out.pr.r3
    have lk2 := loadKeyE hew r2.r16
    have R2 := Lib.hid r2
    have R3 := Lib.hid r3
    have KK3 := Lib.hid K3
    have T3 := Lib.hid t3
    clear r2 r3 K3 t3 t2 g2 g3
    gi_wp2_with (first
      | (refine wpListIn_loadG rfl 22 (.tmp 7) rfl (.pointer (some ⟨q4, 0, none⟩)) rfl l7 ?_)
      | (refine wpListIn_loadG rfl 22 (.tmp 7) rfl (.pointer (some ⟨q4, 0, none⟩)) rfl l71 ?_)
      | (refine wpListIn_loadG rfl 22 (.tmp 7) rfl (.pointer (some ⟨q4, 0, none⟩)) rfl l72 ?_)
      | (refine wpListIn_fieldG rfl 44 (.tmp 16) 0 rfl (.pointer (some ⟨q16, 0, none⟩)) rfl fEdge0 ?_)
      | (refine wpListIn_loadG rfl 25 (.tmp 72) rfl (.pointer (some ⟨q16, 0, none⟩)) rfl lk ?_)
      | (refine wpListIn_loadG rfl 25 (.tmp 89) rfl (.pointer (some ⟨q16, 0, none⟩)) rfl lk2 ?_)
      | (refine wpListIn_loadG rfl 27 (.tmp 6) rfl (.pointer (some ⟨q3, 0, none⟩)) rfl lh ?_)
      | (refine wpListIn_buildG rfl 27 _ rfl #[(0, .agg (hC ed.key)), (2, .int .i64 a), (3, .int .i64 x)] (by simp only [List.map_toArray, List.map_cons, List.map_nil]; rfl) (bld _) ?_)
      | (refine wpListIn_idxG rfl 22 _ _ rfl (.slice (some ⟨gst, 0, none⟩) n n) (.int .i64 (i : Int)) rfl rfl (ix _) ?_)
      | (refine wpListIn_storeG rfl 27 (.tmp 77) (.tmp 76) rfl (.pointer (some ⟨gst, 0 + i * 66, none⟩)) (.agg (hopC ⟨ed.key, zh, a, x⟩)) rfl rfl s1 ?_)
      | (refine wpListIn_storeG rfl 27 (.tmp 86) (.tmp 85) rfl (.pointer (some ⟨gst, 0 + i * 66, none⟩)) (.agg (hopC (frst x S l j))) rfl rfl s2 ?_)
      | (refine wpListIn_fieldG rfl 27 (.tmp 91) 0 rfl (.pointer (some ⟨gst, 0 + i * 66, none⟩)) rfl fHop0 ?_)
      | (refine wpListIn_storeG rfl 25 (.tmp 92) (.tmp 90) rfl (.pointer (some ⟨gst, 0 + i * 66, none⟩)) (.agg (hC ed.key)) rfl rfl s3 ?_)
      | (refine wpListIn_loadG rfl 40 (.tmp 5) rfl (.pointer (some ⟨q2, 0, none⟩)) rfl l51 ?_)
      | fail)
    have hCI : CI w q0 q1 q2 q3 q4 q5 g14 gst q16 a x (some ⟨bA, oA, none⟩) n c S (some ⟨bB, oB, none⟩) c' ed X (hopAt (frst x S l j) ed (S.getD i 0) 0) (stRow i (hopL (stepAt a x S l i)) (stL a x S l j)) X3 := ⟨R3.out, T3.out, KK3.out⟩
    refine wpIn_region_chain (wide_round l0) [.pointer (some ⟨q16, 0, none⟩), .agg (hC ed.key), .pointer (some ⟨q16, 32, none⟩), .agg (hC ed.chan), .slice (some ⟨bB, oB, none⟩) n c', .int .i64 (i : Int), .pointer (some ⟨bB, oB + i, none⟩), .int .i64 (S.getD i 0), .int .i64 x, undef, .pointer (some ⟨q3, 0, none⟩), undef, .pointer (some ⟨q3, 32, none⟩), undef, .pointer (some ⟨q3, 64, none⟩), undef, .pointer (some ⟨q3, 65, none⟩)] [9, 11, 13, 15] (fun m W => CI w q0 q1 q2 q3 q4 q5 g14 gst q16 a x (some ⟨bA, oA, none⟩) n c S (some ⟨bB, oB, none⟩) c' ed X (hopAt (frst x S l j) ed (S.getD i 0) m) (stRow i (hopL (stepAt a x S l i)) (stL a x S l j)) W) (fun m W W' hL h => h.later hL) hCI (by kernel_rfl) (by kernel_rfl) (by kernel_rfl) (by kernel_rfl) (by kernel_rfl) (by kernel_rfl) rfl (by decide) rfl ⟨?_, ?_, ?_, ?_, ?_, ?_, ?_, ?_, ?_, ?_, ?_, ?_, ?_, ?_, ?_, ?_, ?_, trivial⟩ ?_
    · exact chStep_val rfl (fun ac W m he hA => stepOk_want rfl (op_fieldAddr rfl (he.keep (.tmp 16) (by kernel_rfl)) fEdge0 rfl))
    · exact chStep_val rfl (fun ac W m he hA => stepOk_want rfl (op_load rfl (show ac.eval (.tmp 93) = .pointer (some ⟨q16, 0, none⟩) from he.val 0 93 (by kernel_rfl) rfl rfl) (loadKeyE hew hA.r.r16) rfl))
    · exact chStep_val rfl (fun ac W m he hA => stepOk_want rfl (op_fieldAddr rfl (he.keep (.tmp 16) (by kernel_rfl)) fEdge1 rfl))
    · exact chStep_val rfl (fun ac W m he hA => stepOk_want rfl (op_load rfl (show ac.eval (.tmp 95) = .pointer (some ⟨q16, 32, none⟩) from he.val 2 95 (by kernel_rfl) rfl rfl) (loadChanE hew hA.r.r16) rfl))
    · exact chStep_val rfl (fun ac W m he hA => stepOk_want rfl (op_load rfl (he.keep (.tmp 14) (by kernel_rfl)) (loadNums ((hA.r.k14.cell 0).trans rfl)) rfl))
    · exact chStep_val rfl (fun ac W m he hA => stepOk_want rfl (op_move rfl (he.keep (.tmp 15) (by kernel_rfl))))
    · exact chStep_val rfl (fun ac W m he hA => stepOk_want rfl (op_idx rfl (show ac.eval (.tmp 97) = .slice (some ⟨bB, oB, none⟩) n c' from he.val 4 97 (by kernel_rfl) rfl rfl) (show ac.eval (.tmp 98) = .int .i64 (i : Int) from he.val 5 98 (by kernel_rfl) rfl rfl) (idxInt (by omega) (by omega) W) rfl))
    · exact chStep_val rfl (fun ac W m he hA => stepOk_want rfl (op_load rfl (show ac.eval (.tmp 99) = .pointer (some ⟨bB, oB + i, none⟩) from he.val 6 99 (by kernel_rfl) rfl rfl) (ldI64 (hcS W hA.r.nums)) rfl))
    · exact chStep_val rfl (fun ac W m he hA => stepOk_want rfl (op_load rfl (he.keep (.tmp 4) (by kernel_rfl)) (ldI64 ((hA.r.pr.r1.cell 0).trans rfl)) rfl))
    · refine chStep_put (k := 0) rfl (.inl rfl) (fun ac W he hA => ⟨rfl, ?_⟩)
      obtain ⟨W', hs, h1, h2⟩ := storeHop (hopAt_wf hfw hew 0) noHop_wf hA.r.pr.r3
      exact op_storeK rfl (he.keep (.tmp 6) (by kernel_rfl)) (by kernel_rfl) hs ⟨undef, rfl, hA.put ap h2 h1⟩
    · exact chStep_val rfl (fun ac W m he hA => stepOk_want rfl (op_fieldAddr rfl (he.keep (.tmp 6) (by kernel_rfl)) fHop0 rfl))
    · refine chStep_put (k := 1) rfl (.inr (by kernel_rfl)) (fun ac W he hA => ⟨rfl, ?_⟩)
      have hw1 := hopAt_wf hfw hew (s := S.getD i 0) 1
      obtain ⟨W', hs, h1, h2⟩ := storeHash ed.key hew.1 hA.r.pr.r3 (o := 0) (by rw [hopC_size hw1]; decide)
      rw [hopC_setKey0 hw1 _ hew.1] at h1
      exact op_storeK rfl (show ac.eval (.tmp 102) = .pointer (some ⟨q3, 0, none⟩) from he.val 10 102 (by kernel_rfl) rfl rfl) (show ac.eval (.tmp 94) = .agg (hC ed.key) from he.val 1 94 (by kernel_rfl) rfl rfl) hs ⟨undef, rfl, hA.put ap h2 h1⟩
    · exact chStep_val rfl (fun ac W m he hA => stepOk_want rfl (op_fieldAddr rfl (he.keep (.tmp 6) (by kernel_rfl)) fHop1 rfl))
    · refine chStep_put (k := 2) rfl (.inr (by kernel_rfl)) (fun ac W he hA => ⟨rfl, ?_⟩)
      have hw1 := hopAt_wf hfw hew (s := S.getD i 0) 2
      obtain ⟨W', hs, h1, h2⟩ := storeHash ed.chan hew.2 hA.r.pr.r3 (o := 32) (by rw [hopC_size hw1]; decide)
      rw [hopC_setNext hw1 _ hew.2] at h1
      exact op_storeK rfl (show ac.eval (.tmp 103) = .pointer (some ⟨q3, 32, none⟩) from he.val 12 103 (by kernel_rfl) rfl rfl) (show ac.eval (.tmp 96) = .agg (hC ed.chan) from he.val 3 96 (by kernel_rfl) rfl rfl) hs ⟨undef, rfl, hA.put ap h2 h1⟩
    · exact chStep_val rfl (fun ac W m he hA => stepOk_want rfl (op_fieldAddr rfl (he.keep (.tmp 6) (by kernel_rfl)) fHop2 rfl))
    · refine chStep_put (k := 3) rfl (.inr (by kernel_rfl)) (fun ac W he hA => ⟨rfl, ?_⟩)
      have hw1 := hopAt_wf hfw hew (s := S.getD i 0) 3
      have hs := storeI64 (o := 64) (S.getD i 0) hA.r.pr.r3 (hopC_amt hw1)
      have h1 := hA.r.pr.r3.set 64 (.int .i64 (S.getD i 0))
      rw [hopC_setAmt hw1] at h1
      exact op_storeK rfl (show ac.eval (.tmp 104) = .pointer (some ⟨q3, 64, none⟩) from he.val 14 104 (by kernel_rfl) rfl rfl) (show ac.eval (.tmp 100) = .int .i64 (S.getD i 0) from he.val 7 100 (by kernel_rfl) rfl rfl) hs ⟨undef, rfl, hA.put ap (grown_set W q3 64 _) h1⟩
    · exact chStep_val rfl (fun ac W m he hA => stepOk_want rfl (op_fieldAddr rfl (he.keep (.tmp 6) (by kernel_rfl)) fHop3 rfl))
    intro xs W hA4 hxs hk hgt
    have hA4 : CI w q0 q1 q2 q3 q4 q5 g14 gst q16 a x (some ⟨bA, oA, none⟩) n c S (some ⟨bB, oB, none⟩) c' ed X (hopAt (frst x S l j) ed (S.getD i 0) 4) (stRow i (hopL (stepAt a x S l i)) (stL a x S l j)) W := hA4
    have hw4 := hopAt_wf hfw hew (s := S.getD i 0) 4
    have hs := storeI64 (o := 65) x hA4.r.pr.r3 (hopC_exp hw4)
    have h1 := hA4.r.pr.r3.set 65 (.int .i64 x)
    rw [hopC_setExp hw4] at h1
    have hA5 := hA4.put ap (grown_set W q3 65 (.int .i64 x)) h1
    refine last_store rfl rfl ((hgt 16 105 (by decide) (by kernel_rfl)).trans (show xs 16 = .pointer (some ⟨q3, 65, none⟩) from hxs 16 (by decide) rfl)) ((hgt 8 101 (by decide) (by kernel_rfl)).trans (show xs 8 = .int .i64 x from hxs 8 (by decide) rfl)) hs ?_
    clear hxs hk hgt hA4 hs h1 hCI
    simp only [initL, lastL, putL, Nat.reduceAdd, Act.put, List.setIfInBounds_toArray, List.set_cons_succ, List.set_cons_zero]
    generalize W.setCell ⟨q3, 65, none⟩ (.int .i64 x) = W5 at *
    have l5b := loadEdges ((hA5.r.pr.r2.cell 0).trans rfl)
    have HA5 := Lib.hid hA5
    gi_wp2_with (first
      | (refine wpListIn_loadG rfl 40 (.tmp 5) rfl (.pointer (some ⟨q2, 0, none⟩)) rfl l5b ?_)
      | fail)
    have WR0 := wide_round l0
    have hsw : (stepAt a x S l i).wf := by rw [hss]; exact ⟨hew.1, hfw.2⟩
    have hse : (stepAt a x S l i).exp = expAt x l (i + 1) := by rw [hss, hfr]; rfl
    have hsum : (stepAt a x S l i).exp + ed1.delta = expAt x l i := by
      rw [hse, expAt_succ x l i hil1, getD_lt hil1, he1]
    have hge := expAt_ge x l hok i
    have hbA := hA5.r.pr.b
    refine wpIn_region_last WR0 [Pr.eq (.slice (some ⟨gst, 0, none⟩) n n), Pr.eq (.int .i64 (i : Int)), Pr.eq (.pointer (some ⟨gst, 0 + i * 66, none⟩)), Pr.eq (.pointer (some ⟨gst, 0 + i * 66 + 65, none⟩)), Pr.eq (.int .i64 (stepAt a x S l i).exp), Pr.eq (.slice (some ⟨bA, oA, none⟩) n c), Pr.eq (.int .i64 (i : Int)), Pr.eq (.int .i64 ((i + 1 : Nat) : Int)), Pr.eq (.pointer (some ⟨bA, oA + (i + 1) * 67, none⟩)), Pr.eq (.pointer (some ⟨bA, oA + (i + 1) * 67 + 66, none⟩)), Pr.eq (.int .i64 ed1.delta), Pr.eq (.int .i64 ((stepAt a x S l i).exp + ed1.delta)), Pr.eq (.pointer (some ⟨q3, 65, none⟩))] (by kernel_rfl) (by kernel_rfl) (by kernel_rfl) (by kernel_rfl) (by kernel_rfl) (by kernel_rfl) rfl ⟨?_, ?_, ?_, ?_, ?_, ?_, ?_, ?_, ?_, ?_, ?_, ?_, ?_, trivial⟩ ?_
    · exact fun ac W hL he => stepOk_want rfl (op_load rfl (he.keep (.tmp 7) (by kernel_rfl)) (loadHops (((hA5.r.pr.r4.later hL).cell 0).trans rfl)) rfl)
    · exact fun ac W hL he => stepOk_want rfl (op_move rfl (he.keep (.tmp 15) (by kernel_rfl)))
    · exact fun ac W hL he => stepOk_want rfl (op_idx rfl (he.get 0 111 (by kernel_rfl) rfl) (he.get 1 112 (by kernel_rfl) rfl) (idxHop W (by omega)) rfl)
    · exact fun ac W hL he => stepOk_want rfl (op_fieldAddr rfl (he.get 2 113 (by kernel_rfl) rfl) fHop3 rfl)
    · exact fun ac W hL he => stepOk_want rfl (op_load rfl (he.get 3 114 (by kernel_rfl) rfl) (ldI64 (stRow_exp hsw (hA5.t.later hL))) rfl)
    · exact fun ac W hL he => stepOk_want rfl (op_load rfl (he.keep (.tmp 5) (by kernel_rfl)) (loadEdges (((hA5.r.pr.r2.later hL).cell 0).trans rfl)) rfl)
    · exact fun ac W hL he => stepOk_want rfl (op_move rfl (he.keep (.tmp 15) (by kernel_rfl)))
    · exact fun ac W hL he => stepOk_want rfl (op_binOp rfl (he.get 6 117 (by kernel_rfl) rfl) rfl (eqg_any rfl) (addInt i (by omega) _ W) rfl)
    · exact fun ac W hL he => stepOk_want rfl (op_idx rfl (he.get 5 116 (by kernel_rfl) rfl) (he.get 7 118 (by kernel_rfl) rfl) (idxEdge W (by omega)) rfl)
    · exact fun ac W hL he => stepOk_want rfl (op_fieldAddr rfl (he.get 8 119 (by kernel_rfl) rfl) fEdge3 rfl)
    · exact fun ac W hL he => stepOk_want rfl (op_load rfl (he.get 9 120 (by kernel_rfl) rfl) (ldI64 (hcdel W (hbA.trans (hL.below.mono hbA.size)))) rfl)
    · exact fun ac W hL he => stepOk_want rfl (op_binOp rfl (he.get 4 115 (by kernel_rfl) rfl) (he.get 10 121 (by kernel_rfl) rfl) (eqg_any rfl) (add64 (by rw [hsum]; omega) (by rw [hsum]; omega)) rfl)
    · exact fun ac W hL he => stepOk_want rfl (op_fieldAddr rfl (he.keep (.tmp 6) (by kernel_rfl)) fHop3 rfl)
    intro xs W hL hxs hk hgt
    have hw5 : ({ hopAt (frst x S l j) ed (S.getD i 0) 4 with exp := x } : Hop).wf := hw4
    have hA5L := hA5.later hL
    have hs := storeI64 (o := 65) ((stepAt a x S l i).exp + ed1.delta) hA5L.r.pr.r3 (hopC_exp hw5)
    have h1 := hA5L.r.pr.r3.set 65 (.int .i64 ((stepAt a x S l i).exp + ed1.delta))
    rw [hopC_setExp hw5] at h1
    have hA6 := hA5L.put ap (grown_set W q3 65 (.int .i64 ((stepAt a x S l i).exp + ed1.delta))) h1
    refine last_store rfl rfl ((hgt 12 123 (by decide) (by kernel_rfl)).trans (show xs 12 = .pointer (some ⟨q3, 65, none⟩) from hxs 12 (by decide))) ((hgt 11 122 (by decide) (by kernel_rfl)).trans (show xs 11 = .int .i64 ((stepAt a x S l i).exp + ed1.delta) from hxs 11 (by decide))) hs ?_
    clear hxs hk hgt hs h1 hA5L hA5 l5b
    simp only [initL, lastL, putL, Nat.reduceAdd, Act.put, List.setIfInBounds_toArray, List.set_cons_succ, List.set_cons_zero]
    rw [hsum] at hA6 ⊢
    generalize W.setCell ⟨q3, 65, none⟩ (.int .i64 (expAt x l i)) = W6 at *
    have hfe : ({ ({ hopAt (frst x S l j) ed (S.getD i 0) 4 with exp := x } : Hop) with exp := expAt x l i } : Hop) = firstAt x S l i := by
      unfold firstAt
      rw [getD_lt hil, he]
      rfl
    rw [hfe] at hA6
    have hwF : (firstAt x S l i).wf := by rw [← hfe]; exact hw4
    have c65 : W6.cell? ⟨q3, 65, none⟩ = some (.int .i64 (expAt x l i)) := cHop3 hwF hA6.r.pr.r3
    by_cases hov : expAt x l i ≤ 2147483647
    · have hle : decide (expAt x l i ≤ 2147483647) = true := decide_eq_true hov
      gi_wp2_with (first
        | (refine wpListIn_fieldG rfl 27 (.tmp 6) 3 rfl (.pointer (some ⟨q3, 0, none⟩)) rfl fHop3 ?_)
        | fail)
      refine ⟨trivial, (fun h => by cases h), (CallsIn.inRound l0 (callsIn_wide.2 (rmust_ok 150 W6))).mono ?_⟩
      rintro e W9 ⟨h7, rfl⟩
      obtain rfl := h7.symm
      gi_wp2
      exact HQ.out hov _ _ hA6.r hA6.t hA6.k
    · have hle : decide (expAt x l i ≤ 2147483647) = false := decide_eq_false hov
      gi_wp2_with (first
        | (refine wpListIn_fieldG rfl 27 (.tmp 6) 3 rfl (.pointer (some ⟨q3, 0, none⟩)) rfl fHop3 ?_)
        | fail)
      refine ⟨trivial, (fun h => by cases h), (CallsIn.inRound l0 (callsIn_wide.2 (rmust_no 150 W6))).mono ?_⟩
      rintro e W9 ⟨h7, rfl⟩
      obtain rfl := h7.symm
      exact HP.out hov _ _ rfl hA6.r hA6.k
end Go.Proofs.YtloiaaolnfimgaaGreat
