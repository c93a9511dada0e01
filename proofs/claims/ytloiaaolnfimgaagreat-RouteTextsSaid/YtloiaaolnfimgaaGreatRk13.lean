/- Walks, route: slices.Backward over edges, where a round may panic. -/
import Derived.Test.YtloiaaolnfimgaaGreatRk12
set_option linter.unusedVariables false
set_option linter.unusedSimpArgs false
namespace Go.Proofs.YtloiaaolnfimgaaGreat
open Go.RowKit Rt
set_option maxRecDepth 100000 in
set_option maxHeartbeats 4000000 in
theorem backE1_seqP (l : List Rt.Edge) (hl : ∀ e ∈ l, e.wf) (gb : Nat) (A : Option Addr) (n c : Nat) (w : World) (n1 : Nat) (hn1 : 1 ≤ n1) (D : Nat → Prop) (hDb : ¬ D gb) (hDA : ∀ b o, A = some ⟨b, o, none⟩ → ¬ D b) (hn : l.length = n) (hnm : n ≤ 1000000) (hA : Recs 67 w A (l.map edgeL)) (hk : Row w gb 40 #[.slice A n c]) :
    SeqP n1 Tryz.prog 100 #[.pointer (some ⟨gb, 0, none⟩)] bE (fun _ => KeepB D) (fun xs => xs.length = n) (fun pre x _ => pre.length < n ∧ x = bAt l pre.length) (fun _ => False) w := fun k0 J Jp W hW hW2 hJ hY h0 => by
  have hkW := hk.belowAll hW
  have hAW := hA.below hW
  have HY := Lib.hid hY
  have HJ := Lib.hid hJ
  have HN := Lib.hid hn
  have HL := Lib.hid hl
  clear hY hJ hk hA hW hn hl
  refine callsIn_of_wp Tryz.func100 rfl trivial ?_ rfl
  simp only [Tryz.ntmps100, List.size_toArray, List.length_cons, List.length_nil, Nat.reduceAdd, Nat.reduceSub, Array.replicate_succ, Array.replicate_zero, List.push_toArray, List.append_toArray, List.nil_append, List.cons_append]
  have c1 : W.cell? ⟨gb, 0, none⟩ = some (.slice A n c) := (hkW.cell 0).trans rfl
  have e1 : IntKind.i64.wrap ((n : Int) - 1) = (n : Int) - 1 := IntWalk.i64_in _ (by omega)
  gi_wp2
  gi_loopw [3] (fun v wr => ∃ pre : List (Int × Rt.Edge), v = .int .i64 ((n : Int) - 1 - (pre.length : Int)) ∧ pre.length ≤ n ∧ Row wr gb 40 #[.slice A n c] ∧ Recs 67 wr A (l.map edgeL) ∧ J pre wr) (fun v _ => (intOf v + 1).toNat)
  case atStart => exact ⟨[], by simp, by simp, hkW, hAW, h0⟩
  case round =>
    obtain ⟨pre, rfl, hle, hkr, hAr, hJr⟩ := hrel
    clear hkW hAW h0 c1
    by_cases hlt : pre.length < n
    · have hd : decide (((n : Int) - 1 - (pre.length : Int)) ≥ 0) = true := decide_eq_true (by omega)
      have hd' : decide (0 ≤ ((n : Int) - 1 - (pre.length : Int))) = true := decide_eq_true (by omega)
      have hi : n - 1 - pre.length < l.length := by rw [HN.out]; omega
      obtain ⟨b, o, rfl, hcell⟩ := hAr.at_ (k := n - 1 - pre.length) (by simpa using hi)
      rw [List.getElem_map] at hcell
      have hew := HL.out _ (List.getElem_mem hi)
      have hld := loadEdgeM hew hcell
      have hcv : ((n : Int) - 1 - (pre.length : Int)) = ((n - 1 - pre.length : Nat) : Int) := by omega
      have hix := fun W => idxEdge (b := b) (o := o) (n := n) (c := c) (i := n - 1 - pre.length) W (by omega)
      have hx : bAt l pre.length = (((n - 1 - pre.length : Nat) : Int), l[n - 1 - pre.length]) := by
        unfold bAt
        rw [HN.out, getD_lt hi]
      obtain ⟨fn, tmps, assign, body, hy, hR⟩ := HY.out pre (bAt l pre.length) wr hJr ⟨hlt, rfl⟩
      rw [hx] at hy hR
      have c1 : wr.cell? ⟨gb, 0, none⟩ = some (.slice (some ⟨b, o, none⟩) n c) := (hkr.cell 0).trans rfl
      have hls := loadEdges c1
      rw [hcv] at hd hd' ⊢
      have hw63 : ((n - 1 - pre.length : Nat) : Int) < 9223372036854775807 := by omega
      generalize l[n - 1 - pre.length] = ed at *
      generalize hgi : n - 1 - pre.length = i at *
      have HX := Lib.hid hx
      clear hx hcell
      gi_wp2_with (first
        | (refine wpListIn_loadG rfl 40 (.tmp 1) rfl (.pointer (some ⟨gb, 0, none⟩)) rfl hls ?_)
        | (refine wpListIn_idxG rfl 40 (.tmp 13) (.tmp 14) rfl (.slice (some ⟨b, o, none⟩) n c) (.int .i64 (i : Int)) rfl rfl (hix _) ?_)
        | (refine wpListIn_loadG rfl 44 (.tmp 15) rfl (.pointer (some ⟨b, o + i * 67, none⟩)) rfl hld ?_)
        | fail)
      refine hR.mono ?_
      rintro e Y (⟨rfl, hJ5, hk5⟩ | ⟨ch, rfl, hJx5⟩)
      · have hkr5 := hk5.row hkr hDb
        have hA5 := hk5.recs hAr hDA
        have e2 : IntKind.i64.wrap ((i : Int) - 1) = (i : Int) - 1 := IntWalk.i64_in _ (by omega)
        clear hkr hAr hy hR hk5 hls hix hld
        gi_wp2
        refine ⟨⟨pre ++ [((i : Int), ed)], ?_, ?_, hkr5, hA5, hJ5⟩, ?_⟩
        · rw [List.length_append, List.length_singleton]
          congr 1
          omega
        · rw [List.length_append, List.length_singleton]
          omega
        · simp [intOf]
      · gi_wp2
        exact ⟨rfl, .inr ⟨ch, rfl, hJx5⟩⟩
    · have hd : decide (((n : Int) - 1 - (pre.length : Int)) ≥ 0) = false := decide_eq_false (by omega)
      have hd' : decide (0 ≤ ((n : Int) - 1 - (pre.length : Int))) = false := decide_eq_false (by omega)
      gi_wp2
      refine ⟨rfl, _, results_none rfl _ _ _, .inl ⟨⟨_, rfl⟩, pre, by omega, hJr⟩⟩
end Go.Proofs.YtloiaaolnfimgaaGreat
