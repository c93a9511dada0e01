/- Walks of the document's answers: sealed bytes, opened ones. -/
import Derived.Test.YtkgpagkhheglgaaCrcL3
import Derived.IntWalk
namespace Go.Proofs.Ytkgpagkhheglgaa
open Go.RowKit
theorem byteAt_0 (x : BitVec 32) : (x.toNat : Int) % 256 = ((byteAt x 0).toNat : Int) := by rw [byteAt_val]; simp
theorem byteAt_1 (x : BitVec 32) : (x.toNat : Int) / 256 % 256 = ((byteAt x 1).toNat : Int) := by rw [byteAt_val]; rfl
theorem byteAt_2 (x : BitVec 32) : (x.toNat : Int) / 65536 % 256 = ((byteAt x 2).toNat : Int) := by rw [byteAt_val]; rfl
theorem byteAt_3 (x : BitVec 32) : (x.toNat : Int) / 16777216 % 256 = ((byteAt x 3).toNat : Int) := by rw [byteAt_val]; rfl
theorem byteAt_3' (x : BitVec 32) : (x.toNat : Int) / 16777216 = ((byteAt x 3).toNat : Int) := by
  have := x.isLt
  rw [← byteAt_3]; omega
theorem Rd.lit_at {w : World} {t : TypeId} {l : List UInt8} {cs : Array Value} {b : Nat} (hb : w.heap.size = b) (h : (l.map byteV).toArray = cs) : Rd (w.alloc (.cells cs t)) (some ⟨b, 0, none⟩) l := by
  subst h hb; exact Rd.lit w t l
set_option maxHeartbeats 400000 in
theorem refSeal_any (A : Option Addr) (n ca : Nat) (l : List UInt8) (w : World) (hn : l.length = n) (hbn : n ≤ 1099511627776) (hr : Rd w A l) :
    Calls Try.prog 24 #[.slice A n ca] w fun e w' => ∃ v, e = .returned v ∧ Own 5 w' w.heap.size v (l ++ low4 (Crc.sum l)) ∧ Below w.heap.size w w' := by
  have HN := Lib.hid hn
  clear hn
  go_enter Try.func24, Try.ntmps24
  go_wp2_with fail
  refine (refSum_any A n ca l _ HN.out hbn hr).mono ?_
  rintro e w' ⟨rfl, rfl⟩
  obtain ⟨x, hx0⟩ : ∃ x, Crc.sum l = x := ⟨_, rfl⟩
  rw [hx0]
  have HX := Lib.hid hx0
  clear hx0
  have hx := x.isLt
  go_wp2_with (first
    | (at_builtin; refine wpList_append_bytes rfl (.tmp 6) (.tmp 7) 24 rfl w.heap.size 5 Try.underlying24 byteInfo _ [] rfl (own_empty w _ _ (Nat.le_refl _)) A n ca l rfl HN.out (hr.alloc _) (by simp; omega) (by simp) ?_; intro v1 w1 hown1 hg1 hat1)
    | (at_builtin; refine wpList_append_bytes rfl (.tmp 8) (.tmp 20) 24 rfl w.heap.size 5 Try.underlying24 byteInfo _ l rfl (Own.alloc hown1 _) (some ⟨w1.heap.size, 0, none⟩) 4 4 (low4 x) rfl rfl (Rd.lit_at rfl ?hl) (by have := HN.out; omega) (by have := hg1.size; simp at this ⊢; omega) ?_; rotate_left; intro v2 w2 hown2 hg2 hat2))
  case hl => simp only [low4, List.map_cons, List.map_nil, byteV, byteAt_0, byteAt_1, byteAt_2, byteAt_3']
  go_ret
  have hb1 : Below w.heap.size w w1 := (below_new w _).grown hg1 (by simp) (fun k hk => Nat.le_of_eq (Option.some.inj hk))
  exact ⟨_, rfl, by rw [HX.out]; exact hown2, (hb1.alloc hb1.size _).grown hg2 (by have := hb1.size; simp; omega) (fun k hk => (hown1.at_ k hk).1)⟩
/-- What is opened reads wherever what was sealed does. -/
def RefOpenPost (w : World) (A : Option Addr) (l : List UInt8) (e : Ending) (w' : World) : Prop := ∃ A' c, e = .returned (.tuple #[.slice A' (openB l).length c, .int .i64 (openE l)]) ∧ (∀ W, Rd W A l → Rd W A' (openB l)) ∧ Below w.heap.size w w'
set_option maxHeartbeats 400000 in
theorem refOpen_short (A : Option Addr) (n ca : Nat) (l : List UInt8) (w : World) (hn : l.length = n) (hbn : n < 4) :
    Calls Try.prog 23 #[.slice A n ca] w (RefOpenPost w A l) := by
  have hok : openOk l = false := by unfold openOk; rw [decide_eq_false (by omega)]; rfl
  have hB : openB l = [] := by rw [openB, hok]; rfl
  have hE : openE l = 130 := by rw [openE, hok]; rfl
  have HB := Lib.hid hB
  have HE := Lib.hid hE
  clear hn hok hB hE
  have hlt : decide ((n : Int) < 4) = true := by simp; omega
  go_enter Try.func23, Try.ntmps23
  go_wp2
  go_quiet (fail)
  go_wp2
  go_ret2
  exact ⟨none, 0, by rw [HE.out, HB.out]; rfl, fun W _ => by rw [HB.out]; exact Rd.nil _ _, (Drawn.refl w).drewN _ |>.below _⟩
theorem openOk_iff (l : List UInt8) (m : Nat) (hn : l.length = m + 4) : openOk l = eqB (l.take m ++ low4 (Crc.sum (l.take m))) l := by
  unfold openOk
  rw [decide_eq_true (by omega), hn, Nat.add_sub_cancel]
  simp only [Bool.true_and, eqB]
  congr 1
  conv => rhs; rhs; rw [← List.take_append_drop m l]
  rw [List.append_cancel_left_eq]
set_option maxHeartbeats 400000 in
theorem refOpen_long (A : Option Addr) (n ca : Nat) (l : List UInt8) (w : World) (hn : l.length = n) (hbn : 4 ≤ n) (hbt : n ≤ 1099511627776) (hca : n ≤ ca) (hr : Rd w A l) :
    Calls Try.prog 23 #[.slice A n ca] w (RefOpenPost w A l) := by
  obtain ⟨m, rfl⟩ : ∃ m, n = m + 4 := ⟨n - 4, by omega⟩
  have hlt : decide ((m : Int) + 4 < 4) = false := by simp; omega
  have hw1 : IntKind.i64.wrap ((m : Int) + 4 - 4) = (m : Int) := by rw [IntWalk.i64_in _ (by omega)]; omega
  have hw2 : IntKind.i64.wrap (m : Int) = (m : Int) := IntWalk.i64_in _ (by omega)
  have hmc : m ≤ ca := by omega
  have hlt4 : (l.take m).length = m := by rw [List.length_take]; omega
  have HT := Lib.hid hlt4
  have hok := openOk_iff l m hn
  have hB : openB l = if openOk l then l.take m else [] := by rw [openB, hn, Nat.add_sub_cancel]
  have hE : openE l = if openOk l then 0 else 130 := rfl
  rw [hok] at hB hE
  have HB := Lib.hid hB
  have HE := Lib.hid hE
  have HN := Lib.hid hn
  have hr1 := hr.take m
  obtain ⟨a, ha⟩ : ∃ a, l.take m = a := ⟨_, rfl⟩
  rw [ha] at hr1 HB HE HT
  have HA := Lib.hid ha
  clear hn hlt4 hok hB hE ha
  go_enter Try.func23, Try.ntmps23
  go_wp2
  go_region_held (fun w' => Sem.run Try.prog (convert 24 9 (.slice A (m + 4) ca)) w' = .ok (.string ⟨l.toArray⟩) w')
    (first | exact run_string_rd _ _ _ _ A (m + 4) ca l Try.underlying24 Try.underlying5 Try.underlying9 HN.out hr.drew | exact hcv2)
    (first
    | (go_at_call 24; refine (refSeal_any A m ca a _ HT.out (by omega) hr1.drew).mono ?_; rintro e w1 ⟨v1, rfl, hown1, hb1⟩; obtain ⟨q, hq⟩ : ∃ q, a ++ low4 (Crc.sum a) = q := ⟨_, rfl⟩; rw [hq] at hown1; have HQ := Lib.hid hq; clear hq; obtain ⟨A1, c1, rfl, _, _, hrd1⟩ := hown1.slice; have hcv1 := run_string_rd (P := Try.prog) w1 24 9 5 A1 _ c1 _ Try.underlying24 Try.underlying5 Try.underlying9 rfl hrd1; have hr2 := Rd.of_below hb1 (show Rd _ A l from hr); have hr3 := Rd.of_below hb1 (show Rd _ A a from hr1); have hcv2 := run_string_rd (P := Try.prog) w1 24 9 5 A (m + 4) ca l Try.underlying24 Try.underlying5 Try.underlying9 HN.out hr2))
  have hb1' : Below w.heap.size w w1 := (Below.refl w.heap.size w).drew.trans hb1
  rw [HQ.out] at HB HE
  clear hcv1 hcv2
  by_cases hql : q = l
  · rw [beqL_true hql]
    have hB := HB.out
    rw [eqB_true hql, if_pos rfl] at hB
    have hE := HE.out
    rw [eqB_true hql, if_pos rfl] at hE
    have HB2 := Lib.hid hB
    have HE2 := Lib.hid hE
    clear hB hE HB HE hql
    go_wp2
    go_ret2
    exact ⟨A, ca, by rw [HE2.out, HB2.out, HT.out]; rfl, fun W hW => by rw [HB2.out, ← HA.out]; exact hW.take m, hb1'⟩
  · rw [beqL_false hql]
    have hB := HB.out
    rw [eqB_false hql, if_neg (by simp)] at hB
    have hE := HE.out
    rw [eqB_false hql, if_neg (by simp)] at hE
    have HB2 := Lib.hid hB
    have HE2 := Lib.hid hE
    clear hB hE HB HE hql
    go_wp2
    go_ret2
    exact ⟨none, 0, by rw [HE2.out, HB2.out]; rfl, fun W _ => by rw [HB2.out]; exact Rd.nil _ _, hb1'⟩
theorem refOpen_any (A : Option Addr) (n ca : Nat) (l : List UInt8) (w : World) (hn : l.length = n) (hbt : n ≤ 1099511627776) (hca : n ≤ ca) (hr : Rd w A l) :
    Calls Try.prog 23 #[.slice A n ca] w (RefOpenPost w A l) := by
  by_cases h : 4 ≤ n
  · exact refOpen_long A n ca l w hn h hbt hca hr
  · exact refOpen_short A n ca l w hn (by omega)
end Go.Proofs.Ytkgpagkhheglgaa
