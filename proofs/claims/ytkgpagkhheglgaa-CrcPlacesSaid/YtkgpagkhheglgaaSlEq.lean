/- slices.Equal and slices.Clone on bytes. -/
import Derived.Test.YtkgpagkhheglgaaRows
import Derived.Test.YtkgpagkhheglgaaBytes
import Derived.WalkKit
import Derived.WalkSpells
import Derived.WalkLawsBesides
import Derived.BigRegion
import Derived.BigQuiet
namespace Go.Proofs.Ytkgpagkhheglgaa
open Go.RowKit
def eqB (l k : List UInt8) : Bool := decide (l = k)
theorem eqB_true {l k : List UInt8} (h : l = k) : eqB l k = true := decide_eq_true h
theorem eqB_false {l k : List UInt8} (h : l ≠ k) : eqB l k = false := decide_eq_false h
theorem ret_bool {a b : Bool} (h : b = a) : Ending.returned (.bool a) = .returned (.bool b) := by rw [h]
theorem byteInfo : ByteInfo Try.prog 5 := by unfold ByteInfo; kernel_rfl
set_option maxHeartbeats 400000 in
theorem equal_any (A B : Option Addr) (n m ca cb : Nat) (l k : List UInt8) (w : World) (hn : l.length = n) (hm : k.length = m) (hbn : n ≤ 140737488355328) (hbm : m ≤ 140737488355328) (hr : Rd w A l) (hr2 : Rd w B k) :
    Calls Try.prog 36 #[.slice A n ca, .slice B m cb] w fun e w' => e = .returned (.bool (eqB l k)) ∧ Drawn w w' := by
  by_cases hlen : n = m
  · have HN := Lib.hid hn
    have HM := Lib.hid hm
    subst hlen
    clear hn hm
    have ht : ((n : Int) != (n : Int)) = false := by simp
    go_enter Try.func36, Try.ntmps36
    go_wp2
    go_loopw [13] (fun t wr => ∃ j : Nat, j ≤ n ∧ t = .int .i64 j ∧ l.take j = k.take j ∧ Drawn w wr) (fun t _ => n - (intOf t).toNat)
    case atStart => exact ⟨0, by omega, rfl, rfl, Drawn.refl _⟩
    case round =>
      obtain ⟨j, hj, rfl, hp, hd⟩ := hrel
      by_cases hlt : j < n
      · have hl1 : j < l.length := by rw [HN.out]; exact hlt
        have hl2 : j < k.length := by rw [HM.out]; exact hlt
        obtain ⟨b, o, rfl, hc⟩ := hr.at_ hl1
        obtain ⟨b2, o2, rfl, hc2⟩ := hr2.at_ hl2
        have hc' : wr.cell? ⟨b, o + j, none⟩ = some (.int .u8 (l[j].toNat : Int)) := (hd.cell _).trans hc
        have hc2' : wr.cell? ⟨b2, o2 + j, none⟩ = some (.int .u8 (k[j].toNat : Int)) := (hd.cell _).trans hc2
        have hn1 : l.take (j + 1) = l.take j ++ [l[j]] := List.take_succ_eq_append_getElem hl1
        have hn2 : k.take (j + 1) = k.take j ++ [k[j]] := List.take_succ_eq_append_getElem hl2
        have H1 := Lib.hid hn1
        have H2 := Lib.hid hn2
        have HP := Lib.hid hp
        have HX := Lib.hid (rfl : l[j] = l[j])
        by_cases he : l[j] = k[j]
        · have H3 : l.take (j + 1) = k.take (j + 1) := by rw [hn1, hn2, hp, he]
          have H3 := Lib.hid H3
          rw [← he] at hc2'
          clear hn1 hn2 hp he hc hc2 H1 H2 HX
          generalize l[j] = c at *
          have hne : ((c.toNat : Int) != (c.toNat : Int)) = false := by simp
          go_wp2
          go_quiet (fail)
          go_wp2
          go_roundw
          case rel => exact ⟨j + 1, by omega, by go_num, H3.out, hd.drewN _⟩
          case measure => simp [intOf]; omega
        · have H3 : l ≠ k := by
            intro e
            subst e
            exact he rfl
          have H3 := Lib.hid H3
          have hne : ((l[j].toNat : Int) != (k[j].toNat : Int)) = true := by
            rw [bne_iff_ne]
            intro e
            exact he (UInt8.toNat_inj.1 (by omega))
          clear hn1 hn2 hp he hc hc2 H1 H2 HX
          generalize l[j] = c at *
          generalize k[j] = c2 at *
          go_wp2
          go_quiet (fail)
          go_wp2
          go_ret
          exact ⟨ret_bool (eqB_false H3.out), hd.drewN _⟩
      · obtain rfl : j = n := by omega
        have H3 : l = k := by
          rw [← List.take_length (l := l), ← List.take_length (l := k), HN.out, HM.out]; exact hp
        have H3 := Lib.hid H3
        clear hp
        go_wp2
        go_ret
        exact ⟨ret_bool (eqB_true H3.out), hd⟩
  · have ht : ((n : Int) != (m : Int)) = true := by rw [bne_iff_ne]; omega
    have H3 : l ≠ k := by
      intro e
      subst e
      omega
    have H3 := Lib.hid H3
    clear hn hm hlen
    go_enter Try.func36, Try.ntmps36
    go_wp2
    go_ret
    exact ⟨ret_bool (eqB_false H3.out), Drawn.refl _⟩

/-- A clone: nil of nil, else a row of its own. -/
theorem own_empty (w : World) (U : TypeId) (base : Nat) (hb : base ≤ w.heap.size) : Own U (w.alloc (.cells #[] U)) base (.slice (some ⟨w.heap.size, 0, none⟩) 0 0) [] :=
  ⟨rfl, .inr ⟨_, 0, #[], rfl, hb, heap_alloc_new w _, Nat.le_refl _, Nat.zero_le _, rfl, rfl⟩⟩
theorem clone_any (A : Option Addr) (n ca : Nat) (l : List UInt8) (w : World) (hn : l.length = n) (hbn : n ≤ 140737488355328) (hr : Rd w A l) :
    Calls Try.prog 37 #[.slice A n ca] w fun e w' => ∃ v, e = .returned v ∧ Own 5 w' w.heap.size v l ∧ Below w.heap.size w w' := by
  have HN := Lib.hid hn
  have hnil := Lib.run_eql_slice_nil (P := Try.prog) w 24 5 A n ca 0 0 Try.underlying24
  clear hn
  rcases A with _ | ad
  · have hl : l = [] := by
      rcases l with _ | ⟨x, l⟩
      · rfl
      · obtain ⟨b, o, e, _⟩ := hr (by simp)
        cases e
    have HL := Lib.hid hl
    clear hl
    go_enter Try.func37, Try.ntmps37
    go_wp2
    go_ret
    exact ⟨_, rfl, by rw [HL.out]; exact Own.nil _ _ _, Below.refl _ _⟩
  · go_enter Try.func37, Try.ntmps37
    go_wp2_with (first
      | (at_builtin; refine wpList_append_bytes rfl (.tmp 5) (.tmp 6) 24 rfl w.heap.size 5 Try.underlying24 byteInfo _ [] rfl (own_empty w _ _ (Nat.le_refl _)) (some ad) n ca l rfl HN.out (hr.alloc _) (by simp; omega) (by simp) ?_; intro v1 w1 hown1 hg1 hat1))
    go_ret
    exact ⟨_, rfl, hown1, ((Below.refl _ _).alloc (Nat.le_refl _) _).grown hg1 (by simp) (fun k hk => Nat.le_of_eq (Option.some.inj hk))⟩
end Go.Proofs.Ytkgpagkhheglgaa
