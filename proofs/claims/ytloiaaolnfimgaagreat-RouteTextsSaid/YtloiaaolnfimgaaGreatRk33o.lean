/- The document's Open: what it hands back has its room. -/
import Derived.Test.YtloiaaolnfimgaaGreatRc5
set_option linter.unusedVariables false
set_option linter.unusedSimpArgs false
namespace Go.Proofs.YtloiaaolnfimgaaGreat
open Go.RowKit
def RefOpenPostC (w : World) (A : Option Addr) (l : List UInt8) (e : Ending) (w' : World) : Prop := ∃ A' c, e = .returned (.tuple #[.slice A' (openB l).length c, .int .i64 (openE l)]) ∧ (openB l).length ≤ c ∧ c ≤ 9223372036854775807 ∧ (∀ W, Rd W A l → Rd W A' (openB l)) ∧ Below w.heap.size w w'
set_option maxHeartbeats 400000 in
theorem refOpenC_short (A : Option Addr) (n ca : Nat) (l : List UInt8) (w : World) (hn : l.length = n) (hbn : n < 4) :
    Calls Tryz.prog 70 #[.slice A n ca] w (RefOpenPostC w A l) := by
  have hok : openOk l = false := by unfold openOk; rw [decide_eq_false (by omega)]; rfl
  have hB : openB l = [] := by rw [openB, hok]; rfl
  have hE : openE l = 130 := by rw [openE, hok]; rfl
  have HB := Lib.hid hB
  have HE := Lib.hid hE
  clear hn hok hB hE
  have hlt : decide ((n : Int) < 4) = true := by simp; omega
  go_enter Tryz.func70, Tryz.ntmps70
  go_wp2
  go_quiet (fail)
  go_wp2
  go_ret2
  exact ⟨none, 0, by rw [HE.out, HB.out]; rfl, by rw [HB.out]; decide, by decide, fun W _ => by rw [HB.out]; exact Rd.nil _ _, (Drawn.refl w).drewN _ |>.below _⟩
set_option maxHeartbeats 400000 in
set_option maxRecDepth 100000 in
theorem refOpenC_long (A : Option Addr) (n ca : Nat) (l : List UInt8) (w : World) (hn : l.length = n) (hbn : 4 ≤ n) (hbt : n ≤ 1099511627776) (hca : n ≤ ca) (hcm : ca ≤ 9223372036854775807) (hr : Rd w A l) :
    Calls Tryz.prog 70 #[.slice A n ca] w (RefOpenPostC w A l) := by
  have HCM := Lib.hid hcm
  clear hcm
  obtain ⟨m, rfl⟩ : ∃ m, n = m + 4 := ⟨n - 4, by omega⟩
  have hlt : decide ((m : Int) + 4 < 4) = false := by simp; omega
  have hw1 : IntKind.i64.wrap ((m : Int) + 4 - 4) = (m : Int) := by rw [IntWalk.i64_in _ (by omega)]; omega
  have hw2 : IntKind.i64.wrap (m : Int) = (m : Int) := IntWalk.i64_in _ (by omega)
  have hmc : m ≤ ca := by omega
  have hlt4 : (l.take m).length = m := by rw [List.length_take]; omega
  have HT := Lib.hid hlt4
  have hok := openOk_iff l m hn
  have hB : openB l = if openOk l then l.take m else [] := by rw [openB, hn, Nat.add_sub_cancel]
  have hE : openE l = if openOk l then 0 else 130 := rfl
  rw [hok] at hB hE
  have HB := Lib.hid hB
  have HE := Lib.hid hE
  have HN := Lib.hid hn
  have hr1 := hr.take m
  obtain ⟨a, ha⟩ : ∃ a, l.take m = a := ⟨_, rfl⟩
  rw [ha] at hr1 HB HE HT
  have HA := Lib.hid ha
  clear hn hlt4 hok hB hE ha
  go_enter Tryz.func70, Tryz.ntmps70
  go_wp2
  go_region_held (fun w' => Sem.run Tryz.prog (convert 60 9 (.slice A (m + 4) ca)) w' = .ok (.string ⟨l.toArray⟩) w')
    (first | exact run_string_rd _ _ _ _ A (m + 4) ca l Tryz.underlying60 Tryz.underlying5 Tryz.underlying9 HN.out hr.drew | exact hcv2)
    (first
    | (go_at_call 64; refine (refSeal_any A m ca a _ HT.out (by omega) hr1.drew).mono ?_; rintro e w1 ⟨v1, rfl, hown1, hb1⟩; obtain ⟨q, hq⟩ : ∃ q, a ++ low4 (Crc.sum a) = q := ⟨_, rfl⟩; rw [hq] at hown1; have HQ := Lib.hid hq; clear hq; obtain ⟨A1, c1, rfl, _, _, hrd1⟩ := hown1.slice; have hcv1 := run_string_rd (P := Tryz.prog) w1 60 9 5 A1 _ c1 _ Tryz.underlying60 Tryz.underlying5 Tryz.underlying9 rfl hrd1; have hr2 := Rd.of_below hb1 (show Rd _ A l from hr); have hr3 := Rd.of_below hb1 (show Rd _ A a from hr1); have hcv2 := run_string_rd (P := Tryz.prog) w1 60 9 5 A (m + 4) ca l Tryz.underlying60 Tryz.underlying5 Tryz.underlying9 HN.out hr2))
  have hb1' : Below w.heap.size w w1 := (Below.refl w.heap.size w).drew.trans hb1
  rw [HQ.out] at HB HE
  clear hcv1 hcv2
  by_cases hql : q = l
  · rw [beqL_true hql]
    have hB := HB.out
    rw [eqB_true hql, if_pos rfl] at hB
    have hE := HE.out
    rw [eqB_true hql, if_pos rfl] at hE
    have HB2 := Lib.hid hB
    have HE2 := Lib.hid hE
    clear hB hE HB HE hql
    go_wp2
    go_ret2
    exact ⟨A, ca, by rw [HE2.out, HB2.out, HT.out]; rfl, by rw [HB2.out, HT.out]; exact hmc, HCM.out, fun W hW => by rw [HB2.out, ← HA.out]; exact hW.take m, hb1'⟩
  · rw [beqL_false hql]
    have hB := HB.out
    rw [eqB_false hql, if_neg (by simp)] at hB
    have hE := HE.out
    rw [eqB_false hql, if_neg (by simp)] at hE
    have HB2 := Lib.hid hB
    have HE2 := Lib.hid hE
    clear hB hE HB HE hql
    go_wp2
    go_ret2
    exact ⟨none, 0, by rw [HE2.out, HB2.out]; rfl, by rw [HB2.out]; decide, by decide, fun W _ => by rw [HB2.out]; exact Rd.nil _ _, hb1'⟩
theorem refOpenC_any (A : Option Addr) (n ca : Nat) (l : List UInt8) (w : World) (hn : l.length = n) (hbt : n ≤ 1099511627776) (hca : n ≤ ca) (hcm : ca ≤ 9223372036854775807) (hr : Rd w A l) :
    Calls Tryz.prog 70 #[.slice A n ca] w (RefOpenPostC w A l) := by
  by_cases h : 4 ≤ n
  · exact refOpenC_long A n ca l w hn h hbt hca hcm hr
  · exact refOpenC_short A n ca l w hn (by omega)
end Go.Proofs.YtloiaaolnfimgaaGreat
