/- money: an amount's parts where there are none; the document's row of parts. -/
import Derived.Test.YtcfhhljjknmniaaDoorMp1
set_option linter.unusedVariables false
set_option linter.unusedSimpArgs false
namespace Go.Proofs.YtcfhhljjknmniaaDoor
open Go.RowKit
attribute [local go_sem] Oper.semAt_some
/-- How many parts there are. -/
def okP (a m : Int) : Bool := amts [a] && (decide (1 ≤ m) && decide (m ≤ 1000))
def cntP (a m : Int) : Nat := if okP a m then m.toNat else 0
set_option maxRecDepth 100000 in
set_option maxHeartbeats 4000000 in
theorem parts1_none (a m : Int) (ga gm : Nat) (w : World) (n1 : Nat) (D : Nat → Prop) (S : List Pt → Prop) (hS : S []) (Ok : List Pt → Pt → World → Prop) (hbad : okP a m = false) (hka : Row w ga 2 #[.int .i64 a]) (hkm : Row w gm 3 #[.int .i64 m]) :
    SeqW Fence.wide n1 Tryd.prog 41 #[.pointer (some ⟨ga, 0, none⟩), .pointer (some ⟨gm, 0, none⟩)] ptE (KeepD D) S (fun _ => True) Ok (fun _ => False) w := fun k0 J Jx W hW hW2 hJ hJx hY h0 => by
  have hkaW := hka.belowAll hW
  have hkmW := hkm.belowAll hW
  have HJ := Lib.hid hJ
  have hL0 := ((Later.refl W).alloc (.cells #[.func (.yield k0) #[] #[]] 73)).alloc (.cells #[.int .i64 a] 2)
  have c1 : (W.alloc (.cells #[.func (.yield k0) #[] #[]] 73)).cell? ⟨ga, 0, none⟩ = some (.int .i64 a) := ((hkaW.alloc _).cell 0).trans rfl
  have km2 := (hkmW.alloc (.cells #[.func (.yield k0) #[] #[]] 73)).alloc (.cells #[.int .i64 a] 2)
  have hck := check_any (some ⟨W.heap.size + 1, 0, none⟩) 1 1 [a] _ rfl (by omega) (rd1Z1 a W (.cells #[.func (.yield k0) #[] #[]] 73))
  have hend : ∀ X, Later W X → (∃ xs, S xs ∧ J xs X) := fun X hL => ⟨[], hS, HJ.out.below h0 hL⟩
  clear hY hJ hJx hka hkm hW hW2 h0 hkaW hkmW
  refine callsIn_of_wp_marks Tryd.func41 rfl trivial ?_ rfl
  simp only [Tryd.ntmps41, List.size_toArray, List.length_cons, List.length_nil, Nat.reduceAdd, Nat.reduceSub, Array.replicate_succ, Array.replicate_zero, List.push_toArray, List.append_toArray, List.nil_append, List.cons_append]
  refine wpIn_wide.2 ?_
  cases ha : amts [a] with
  | false =>
    rw [ha] at hck
    go_wp2_with fail
    go_step3
    go_wp2_with (first
      | (refine wpList_buildSl rfl 22 1 _ rfl #[(0, .int .i64 _)] rfl (build1Z _ _) ?_)
      | (go_at_call 16; refine hck.mono ?_; clear hck; rintro e w1 ⟨rfl, hL1⟩)
      | fail)
    rw [Exit.noGoto_ret]
    exact ⟨_, results_none rfl _ _ _, ⟨_, rfl⟩, .inl (hend _ (hL0.step hL1))⟩
  | true =>
    rw [ha] at hck
    have hb2 : (decide (1 ≤ m) && decide (m ≤ 1000)) = false := by unfold okP at hbad; rw [ha, Bool.true_and] at hbad; exact hbad
    clear hbad
    by_cases h1 : 1 ≤ m
    · have d1 : decide (m < 1) = false := decide_eq_false (by omega)
      have d2 : decide (1000 < m) = true := by
        rw [decide_eq_true h1, Bool.true_and] at hb2
        exact decide_eq_true (by simpa using hb2)
      go_wp2_with fail
      go_step3
      go_wp2_with (first
        | (refine wpList_buildSl rfl 22 1 _ rfl #[(0, .int .i64 _)] rfl (build1Z _ _) ?_)
        | (go_at_call 16; refine hck.mono ?_; clear hck; rintro e w1 ⟨rfl, hL1⟩; have c2 : w1.cell? ⟨gm, 0, none⟩ = some (.int .i64 m) := ((km2.later hL1).cell 0).trans rfl)
        | fail)
      rw [Exit.noGoto_ret]
      exact ⟨_, results_none rfl _ _ _, ⟨_, rfl⟩, .inl (hend _ (hL0.step hL1))⟩
    · have d1 : decide (m < 1) = true := decide_eq_true (by omega)
      go_wp2_with fail
      go_step3
      go_wp2_with (first
        | (refine wpList_buildSl rfl 22 1 _ rfl #[(0, .int .i64 _)] rfl (build1Z _ _) ?_)
        | (go_at_call 16; refine hck.mono ?_; clear hck; rintro e w1 ⟨rfl, hL1⟩; have c2 : w1.cell? ⟨gm, 0, none⟩ = some (.int .i64 m) := ((km2.later hL1).cell 0).trans rfl)
        | fail)
      rw [Exit.noGoto_ret]
      exact ⟨_, results_none rfl _ _ _, ⟨_, rfl⟩, .inl (hend _ (hL0.step hL1))⟩
theorem parts1_all (a m : Int) (ga gm : Nat) (w : World) (n1 : Nat) (hn1 : 3 ≤ n1) (D : Nat → Prop) (hDw : ∀ b, D b → b < w.heap.size + 2) (hDa : ¬ D ga) (hDm : ¬ D gm) (hka : Row w ga 2 #[.int .i64 a]) (hkm : Row w gm 3 #[.int .i64 m]) :
    SeqW Fence.wide n1 Tryd.prog 41 #[.pointer (some ⟨ga, 0, none⟩), .pointer (some ⟨gm, 0, none⟩)] ptE (KeepD D) (fun xs => xs.length = cntP a m) (fun _ => True) (fun pre p _ => pre.length < cntP a m ∧ p.i = pre.length ∧ p.x = partAt a.toNat m.toNat pre.length) (fun _ => False) w := by
  cases h : okP a m with
  | false =>
    exact parts1_none a m ga gm w n1 D _ (by show 0 = cntP a m; unfold cntP; rw [h]; rfl) _ h hka hkm
  | true =>
    have hc : cntP a m = m.toNat := by unfold cntP; rw [h]; rfl
    unfold okP at h
    rw [Bool.and_eq_true, Bool.and_eq_true, decide_eq_true_eq, decide_eq_true_eq] at h
    have h1 := okAmt_iff h.1
    obtain ⟨x, rfl⟩ := Int.eq_ofNat_of_zero_le h1.1
    obtain ⟨y, rfl⟩ := Int.eq_ofNat_of_zero_le (show 0 ≤ m by omega)
    rw [hc]
    exact parts1_seq x y ga gm w n1 hn1 D hDw hDa hDm (by omega) (by omega) (by omega) hka hkm
end Go.Proofs.YtcfhhljjknmniaaDoor
