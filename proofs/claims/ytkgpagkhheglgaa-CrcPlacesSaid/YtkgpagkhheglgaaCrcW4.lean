/- Walks: opened bytes; the rows that every law asks. -/
import Derived.Test.YtkgpagkhheglgaaCrcW3
import Derived.Deep.RegionHeld3
namespace Go.Proofs.Ytkgpagkhheglgaa
open Go.RowKit
theorem Rd.take {w : World} {A : Option Addr} {l : List UInt8} (h : Rd w A l) (k : Nat) : Rd w A (l.take k) := fun hl => by
  obtain ⟨b, o, e, hc⟩ := h (by intro e; subst e; simp at hl)
  refine ⟨b, o, e, fun i hi => ?_⟩
  rw [List.getElem_take]
  exact hc i (by rw [List.length_take] at hi; omega)
theorem Rd.drop {w : World} {A : Option Addr} {l : List UInt8} (h : Rd w A l) (k : Nat) : Rd w (A.map (·.add k)) (l.drop k) := fun hl => by
  obtain ⟨b, o, e, hc⟩ := h (by intro e; subst e; simp at hl)
  subst e
  refine ⟨b, o + k, by unfold Addr.add; simp, fun i hi => ?_⟩
  rw [List.getElem_drop, Nat.add_assoc]
  exact hc (k + i) (by rw [List.length_drop] at hi; omega)
theorem Rd.of_below {w w' : World} {A : Option Addr} {l : List UInt8} (hb : Below w.heap.size w w') (h : Rd w A l) : Rd w' A l := h.below hb
theorem below_new_drew {w w1 : World} {o : Obj} (hb : Below (w.alloc o).drew.heap.size (w.alloc o).drew w1) : Below w.heap.size w w1 :=
  (((Below.refl w.heap.size w).alloc (Nat.le_refl _) o).drew).trans (hb.mono (by simp))
def openOk (l : List UInt8) : Bool := decide (4 ≤ l.length) && eqB (low4 (Crc.sum (l.take (l.length - 4)))) (l.drop (l.length - 4))
def openB (l : List UInt8) : List UInt8 := if openOk l then l.take (l.length - 4) else []
def openE (l : List UInt8) : Int := if openOk l then 0 else 130
def OpenPost (w : World) (l : List UInt8) (e : Ending) (w' : World) : Prop := ∃ v, e = .returned (.tuple #[v, .int .i64 (openE l)]) ∧ Own 5 w' w.heap.size v (openB l) ∧ Below w.heap.size w w'
set_option maxHeartbeats 400000 in
theorem open_short (A : Option Addr) (n ca : Nat) (l : List UInt8) (w : World) (hn : l.length = n) (hbn : n < 4) :
    Calls Try.prog 22 #[.slice A n ca] w (OpenPost w l) := by
  have hok : openOk l = false := by unfold openOk; rw [decide_eq_false (by omega)]; rfl
  have hB : openB l = [] := by rw [openB, hok]; rfl
  have hE : openE l = 130 := by rw [openE, hok]; rfl
  have HB := Lib.hid hB
  have HE := Lib.hid hE
  clear hn hok hB hE
  have hlt : decide ((n : Int) - 4 < 0) = true := by simp; omega
  go_enter Try.func22, Try.ntmps22
  go_wp2
  go_quiet (fail)
  go_wp2
  go_ret2
  exact ⟨_, by rw [HE.out]; rfl, by rw [HB.out]; exact Own.nil _ _ _, (Drawn.refl w).drewN _ |>.below _⟩
set_option maxHeartbeats 400000 in
theorem open_long (A : Option Addr) (n ca : Nat) (l : List UInt8) (w : World) (hn : l.length = n) (hbn : 4 ≤ n) (hbt : n ≤ 1099511627776) (hca : n ≤ ca) (hr : Rd w A l) :
    Calls Try.prog 22 #[.slice A n ca] w (OpenPost w l) := by
  obtain ⟨m, rfl⟩ : ∃ m, n = m + 4 := ⟨n - 4, by omega⟩
  have hlt : decide ((m : Int) < 0) = false := by simp
  have hcm : ¬ ca = m := by omega
  have hmc : m ≤ ca := by omega
  have hmi : (m : Int) ≤ (m : Int) + 4 := by omega
  have hci : (m : Int) + 4 ≤ (ca : Int) := by omega
  have hlt4 : (l.take m).length = m := by rw [List.length_take]; omega
  have hld4 : (l.drop m).length = 4 := by rw [List.length_drop]; omega
  have HT := Lib.hid hlt4
  have HD := Lib.hid hld4
  have hP : ∀ x ∈ [l.take m], x.length ≤ 1099511627776 := by simp; omega
  have HP := Lib.hid hP
  have hfl : [l.take m].flatten = l.take m := by simp
  have HF := Lib.hid hfl
  have hok : openOk l = eqB (low4 (Crc.sum (l.take m))) (l.drop m) := by
    unfold openOk; rw [decide_eq_true (by omega), hn]; simp
  have hB : openB l = if openOk l then l.take m else [] := by rw [openB, hn, Nat.add_sub_cancel]
  have hE : openE l = if openOk l then 0 else 130 := rfl
  rw [hok] at hB hE
  have HB := Lib.hid hB
  have HE := Lib.hid hE
  have hr1 := hr.take m
  have hr2 := hr.drop m
  clear hn hlt4 hld4 hP hfl hok hB hE
  generalize l.take m = a at *
  generalize l.drop m = d at *
  go_enter Try.func22, Try.ntmps22
  go_wp2
  go_region_held3 (fun _ => True) (exact trivial) (first
    | (go_at_call 12; refine (sum_any _ 1 1 [a] _ rfl (by omega) HP.out ?_).mono ?_; go_must (exact Rds.one _ hr1 HT.out); rintro e w1 ⟨rfl, hb1⟩; have hr3 := Rd.of_below hb1 (show Rd _ A a from hr1.alloc (.cells #[.slice A m ca] 24)); have hr4 := Rd.of_below hb1 (show Rd _ (A.map (·.add m)) d from hr2.alloc (.cells #[.slice A m ca] 24)))
    | (go_at_call 35; refine (low_any _ _).mono ?_; rintro e w2 ⟨v2, rfl, hown2, hb2⟩; obtain ⟨A2, c2, rfl, _, _, hrd2⟩ := hown2.slice)
    | (go_at_call 36; refine (equal_any _ _ 4 _ _ _ (low4 (Crc.sum a)) d _ rfl HD.out (by omega) (by omega) hrd2 (hr4.below hb2)).mono ?_; rintro e w3 ⟨rfl, hd3⟩))
  have hb1' : Below w.heap.size w w1 := below_new_drew hb1
  have hb3 : Below w.heap.size w w3 := (hb1'.trans (hb2.mono hb1'.size)).trans (hd3.below _)
  have hr5 := (hr3.below hb2).below (hd3.below _)
  generalize eqB (low4 (Crc.sum a)) d = q at *
  cases q
  · go_wp2
    go_ret2
    exact ⟨_, by rw [HE.out]; rfl, by rw [HB.out]; exact Own.nil _ _ _, hb3⟩
  · go_wp2_with (first
      | (go_at_call 37; refine (clone_any A m ca a _ HT.out (by omega) hr5).mono ?_; rintro e w4 ⟨v4, rfl, hown4, hb4⟩))
    go_ret2
    exact ⟨_, by rw [HE.out]; rfl, by rw [HB.out]; exact hown4.mono hb3.size, hb3.trans (hb4.mono hb3.size)⟩
end Go.Proofs.Ytkgpagkhheglgaa
