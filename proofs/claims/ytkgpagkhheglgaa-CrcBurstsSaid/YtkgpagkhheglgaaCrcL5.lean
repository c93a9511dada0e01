/- The walk of the law CrcSeals. -/
import Derived.Test.YtkgpagkhheglgaaCrcL4
namespace Go.Proofs.Ytkgpagkhheglgaa
open Go.RowKit
/-- Bytes in a row of one's own, whatever they are. -/
def XRow (U : TypeId) (w : World) (base : Nat) (v : Value) (n : Nat) : Prop :=
  n = 0 ∨ ∃ g cap cs, v = .slice (some ⟨g, 0, none⟩) n cap ∧ base ≤ g ∧ Row w g U cs ∧ n ≤ cs.size ∧ ∀ j, j < n → ∃ q : UInt8, cs[j]? = some (byteV q)
theorem Own.xrow {U : TypeId} {w : World} {base : Nat} {v : Value} {l : List UInt8} (h : Own U w base v l) : XRow U w base v l.length := by
  obtain ⟨h1, h2⟩ := h
  rcases h2 with ⟨rfl, hn⟩ | ⟨g, cap, cur, rfl, hb, hh, hn, hc, hs, ht⟩
  · exact .inl hn
  · refine .inr ⟨g, cap, cur, rfl, hb, hh, by omega, fun j hj => ⟨l[j], ?_⟩⟩
    have h3 : (cur.toList.take (l.length * 1))[j]? = (l.map byteV)[j]? := by rw [ht]
    rw [List.getElem?_take_of_lt (by omega), Array.getElem?_toList] at h3
    rw [h3, List.getElem?_map, List.getElem?_eq_getElem hj]; rfl
theorem Own.form {U : TypeId} {w : World} {base : Nat} {v : Value} {l : List UInt8} (h : Own U w base v l) (hne : l ≠ []) :
    ∃ g c, v = .slice (some ⟨g, 0, none⟩) l.length c ∧ base ≤ g ∧ l.length ≤ c ∧ c ≤ maxLen ∧ Rd w (some ⟨g, 0, none⟩) l := by
  obtain ⟨A, c, e, h1, h2, hr⟩ := h.slice
  rcases h.2 with ⟨rfl, hn⟩ | ⟨g, cap, cur, rfl, hb, _⟩
  · exact absurd (List.eq_nil_of_length_eq_zero hn) hne
  · injection e with e1 e2 e3
    subst e1 e3
    exact ⟨g, cap, rfl, hb, h1, h2, hr⟩
theorem XRow.below {U : TypeId} {w w' : World} {base n : Nat} {v : Value} (h : XRow U w base v n) (hb : Below w.heap.size w w') : XRow U w' base v n := by
  rcases h with h | ⟨g, cap, cs, e, h1, h2, h3⟩
  · exact .inl h
  · exact .inr ⟨g, cap, cs, e, h1, h2.belowAll hb, h3⟩
theorem XRow.of_below {U : TypeId} {w w' : World} {base n : Nat} {v : Value} (hb : Below w.heap.size w w') (h : XRow U w base v n) : XRow U w' base v n := h.below hb
theorem openE_bd (l : List UInt8) : 0 ≤ openE l ∧ openE l ≤ 130 := by
  unfold openE; split <;> omega
theorem strOf {w : World} {A : Option Addr} {n c : Nat} {l : List UInt8} (hr : Rd w A l) (hn : l.length = n) : Sem.run Try.prog (convert 24 9 (.slice A n c)) w = .ok (.string ⟨l.toArray⟩) w :=
  run_string_rd w _ _ _ A n c l Try.underlying24 Try.underlying5 Try.underlying9 hn hr
theorem held_of {w' : World} {g n c2 c3 ca c4 c5 : Nat} {A A3 A4 A5 : Option Addr} {sb l X : List UInt8} (h0 : w'.cell? ⟨g, n, none⟩ = some (.int .u8 77)) (h1 : Rd w' A3 sb) (h2 : Rd w' (some ⟨g, 0, none⟩) l) (h3 : Rd w' A l) (h4 : Rd w' A4 X) (h5 : Rd w' A5 X) (hn : l.length = n) :
    w'.cell? ⟨g, n, none⟩ = some (.int .u8 77) ∧ Sem.run Try.prog (convert 24 9 (.slice A3 sb.length c3)) w' = .ok (.string ⟨sb.toArray⟩) w' ∧ Sem.run Try.prog (convert 24 9 (.slice (some ⟨g, 0, none⟩) n c2)) w' = .ok (.string ⟨l.toArray⟩) w' ∧ Sem.run Try.prog (convert 24 9 (.slice A n ca)) w' = .ok (.string ⟨l.toArray⟩) w' ∧ Sem.run Try.prog (convert 24 9 (.slice A4 X.length c4)) w' = .ok (.string ⟨X.toArray⟩) w' ∧ Sem.run Try.prog (convert 24 9 (.slice A5 X.length c5)) w' = .ok (.string ⟨X.toArray⟩) w' :=
  ⟨h0, strOf h1 rfl, strOf h2 hn, strOf h3 hn, strOf h4 rfl, strOf h5 rfl⟩
set_option maxRecDepth 100000 in
set_option maxHeartbeats 1000000 in
theorem crcSeals_yes (A B : Option Addr) (n ca m cb : Nat) (l k : List UInt8) (w : World) (hn : l.length = n) (hm : k.length = m) (h1 : n ≤ 500) (h2 : m ≤ 500) (hcb : m ≤ cb) (hr : Rd w A l) (hr2 : Rd w B k) :
    Calls Try.prog 6 #[.slice A n ca, .slice B m cb] w fun e w' => e = .returned (.bool true) ∧ Below w.heap.size w w' := by
  have HN := Lib.hid hn
  have HM := Lib.hid hm
  have hd1 : decide ((500 : Int) < (n : Int)) = false := by simp; omega
  have hd2 : decide ((500 : Int) < (m : Int)) = false := by simp; omega
  clear hn hm
  go_enter Try.func6, Try.ntmps6
  go_wp2_with (first
    | (at_builtin; refine wpList_append_bytes rfl (.tmp 24) (.tmp 25) 24 rfl w.heap.size 5 Try.underlying24 byteInfo _ [] rfl (own_empty w _ _ (Nat.le_refl _)) A n ca l rfl HN.out (hr.alloc _) (by simp; omega) (by simp) ?_; intro v1 w1 hown1 hg1 hat1; have hb1 : Below w.heap.size w w1 := (below_new w _).grown hg1 (by simp) (fun k hk => Nat.le_of_eq (Option.some.inj hk)))
    | (at_builtin; refine wpList_append_bytes rfl (.tmp 26) (.tmp 27) 24 rfl w.heap.size 5 Try.underlying24 byteInfo _ l rfl (Own.alloc hown1 _) (some ⟨w1.heap.size, 0, none⟩) 1 1 [77] rfl rfl (Rd.byte1 rfl) (by have := HN.out; omega) (by have := hb1.size; simp; omega) ?_; intro v2 w2 hown2 hg2 hat2; have hb2 : Below w.heap.size w w2 := (hb1.alloc hb1.size _).grown hg2 (by have := hb1.size; simp; omega) (fun k hk => (hown1.at_ k hk).1); obtain ⟨g, c2, rfl, hbg, hlc, hcm, hrd2⟩ := Own.form hown2 (by simp); have hnc : n + 1 ≤ c2 := by have := HN.out; rw [List.length_append] at hlc; simp at hlc; omega))
  have hrm : Rd w2 (some ⟨g, 0, none⟩) l := by have := hrd2.take l.length; simpa using this
  have hcell : w2.cell? ⟨g, n, none⟩ = some (.int .u8 77) := by
    obtain ⟨b, o, e, hc⟩ := hrd2.at_ (k := l.length) (by simp)
    injection e with e
    injection e with e1 e2
    subst e1 e2
    rw [show (l ++ [77])[l.length]'(by simp) = 77 from by simp, Nat.zero_add] at hc
    rw [← HN.out]; exact hc
  have hP : ∀ x ∈ [l], x.length ≤ 1099511627776 := by have := HN.out; simp; omega
  refine (seal_any _ 1 1 [l] _ rfl (by omega) (by have := HN.out; simp; omega) hP (Rds.one_at _ rfl hrm HN.out)).mono ?_
  clear hP
  rintro e w3 ⟨v3, rfl, hown3, hb3⟩
  have hrm3 := (hrm.alloc _).below hb3
  have hcell3 : w3.cell? ⟨g, n, none⟩ = some (.int .u8 77) := by
    rw [hb3.cell (p := ⟨g, n, none⟩) (by have := block_lt_of_cell hcell; simp at this ⊢; omega), World.cell?_alloc_lt _ _ _ (block_lt_of_cell hcell)]; exact hcell
  replace hb3 := below_step (hb2.alloc hb2.size _) (by have := hb2.size; simp; omega) hb3
  rw [show [l].flatten = l from by simp] at hown3
  obtain ⟨sb, hsb⟩ : ∃ sb, l ++ low4 (Crc.sum l) = sb := ⟨_, rfl⟩
  rw [hsb] at hown3
  have HSB := Lib.hid hsb
  obtain ⟨A3, c3, rfl, _, _, hrd3⟩ := hown3.slice
  have hr_3 := hr.below hb3
  have hr2_3 := hr2.below hb3
  clear hsb hown3 hcell hrm hown2 hrd2 hown1 hg1 hg2 hat1 hat2 hb1 hb2
  go_wp2_with fail
  refine (open_any B m cb k _ HM.out (by omega) hcb hr2_3).mono ?_
  rintro e w4 ⟨v4, rfl, hown4, hb4⟩
  have hbd := openE_bd k
  obtain ⟨X, hX⟩ : ∃ X, openB k = X := ⟨_, rfl⟩
  obtain ⟨er, hE⟩ : ∃ er, openE k = er := ⟨_, rfl⟩
  rw [hX] at hown4
  rw [hE]
  rw [hE] at hbd
  obtain ⟨hbd1, hbd2⟩ := hbd
  have HX := Lib.hid hX
  have HE := Lib.hid hE
  clear hX hE
  have hx4 := hown4.xrow
  have hxl : X.length ≤ 9223372036854775807 := by obtain ⟨_, c, _, h1, h2, _⟩ := hown4.slice; unfold maxLen at h2; omega
  obtain ⟨A4, c4, rfl, _, _, hrd4⟩ := hown4.slice
  have hr_4 := hr_3.below hb4
  have hr2_4 := hr2_3.below hb4
  have hrd3_4 := hrd3.below hb4
  have hrm_4 := hrm3.below hb4
  have hcell_4 : w4.cell? ⟨g, n, none⟩ = some (.int .u8 77) := (hb4.cell (p := ⟨g, n, none⟩) (block_lt_of_cell hcell3)).trans hcell3
  have hsz3 := hb3.size
  have hb4w := below_step hb3 hb3.size hb4
  clear hown4 hb4 hr_3 hr2_3 hrd3 hrm3 hcell3 hb3
  go_wp2_with fail
  refine (refOpen_any B m cb k _ HM.out (by omega) hcb hr2_4).mono ?_
  rintro e w5 ⟨A5, c5, rfl, hrdW, hb5⟩
  rw [HX.out] at hrdW
  have HW := Lib.hid hrdW
  clear hrdW
  rw [HX.out, HE.out]
  have hr_5 := hr_4.below hb5
  have hr2_5 := hr2_4.below hb5
  have hrd5 := HW.out _ hr2_5
  have hrd3_5 := hrd3_4.below hb5
  have hrm_5 := hrm_4.below hb5
  have hrd4_5 := hrd4.below hb5
  have hx5 := hx4.below hb5
  have hcell_5 : w5.cell? ⟨g, n, none⟩ = some (.int .u8 77) := (hb5.cell (p := ⟨g, n, none⟩) (block_lt_of_cell hcell_4)).trans hcell_4
  have hb5w := below_step hb4w hb4w.size hb5
  clear hb5 hr_4 hr2_4 hrd3_4 hrm_4 hcell_4 hb4w hrd4 hx4
  have hE1 : ((er : Int) == er) = true := by simp
  have hnc' : (n : Int) + 1 ≤ (c2 : Int) := by omega
  have hn0 : (0 : Int) ≤ (n : Int) + 1 := by omega
  have hn3 : n < n + 1 := by omega
  have hn4 : (n : Int) < (n : Int) + 1 := by omega
  have hw1 : IntKind.i64.wrap ((n : Int) + 1) = (n : Int) + 1 := IntWalk.i64_in _ (by omega)
  have hw2 : ((n : Int) + 1).toNat = n + 1 := by omega
  go_wp2_with fail
  go_region_held (fun w' => w'.cell? ⟨g, n, none⟩ = some (.int .u8 77) ∧ Sem.run Try.prog (convert 24 9 (.slice A3 sb.length c3)) w' = .ok (.string ⟨sb.toArray⟩) w' ∧ Sem.run Try.prog (convert 24 9 (.slice (some ⟨g, 0, none⟩) n c2)) w' = .ok (.string ⟨l.toArray⟩) w' ∧ Sem.run Try.prog (convert 24 9 (.slice A n ca)) w' = .ok (.string ⟨l.toArray⟩) w' ∧ Sem.run Try.prog (convert 24 9 (.slice A4 X.length c4)) w' = .ok (.string ⟨X.toArray⟩) w' ∧ Sem.run Try.prog (convert 24 9 (.slice A5 X.length c5)) w' = .ok (.string ⟨X.toArray⟩) w')
    (first | exact ⟨hcell_5, strOf hrd3_5.drew rfl, strOf hrm_5.drew HN.out, strOf hr_5.drew HN.out, strOf hrd4_5.drew rfl, strOf hrd5.drew rfl⟩ | exact hheld6)
    (first
    | (go_at_call 24; refine (refSeal_any A n ca l _ HN.out (by omega) hr_5.drew).mono ?_; rintro e w6 ⟨v6, rfl, hown6, hb6⟩; rw [HSB.out] at hown6; obtain ⟨A6, c6, rfl, _, _, hrd6⟩ := hown6.slice; have hcv6 := strOf (c := c6) hrd6 rfl; have hr2_6 := Rd.of_below hb6 (show Rd _ B k from hr2_5); have hx6 : XRow 5 w6 w3.heap.size (.slice A4 X.length c4) X.length := XRow.of_below hb6 (show XRow 5 w5.drew w3.heap.size (.slice A4 X.length c4) X.length from hx5); have hrd5_6 := Rd.of_below hb6 (show Rd _ A5 X from hrd5); have hb6w : Below w.heap.size w w6 := below_step hb5w.drew hb5w.size hb6; have hheld6 := held_of (c2 := c2) (c3 := c3) (ca := ca) (c4 := c4) (c5 := c5) ((hb6.cell (p := ⟨g, n, none⟩) (block_lt_of_cell (w := w5) hcell_5)).trans hcell_5) (Rd.of_below hb6 (show Rd _ A3 sb from hrd3_5)) (Rd.of_below hb6 (show Rd _ (some ⟨g, 0, none⟩) l from hrm_5)) (Rd.of_below hb6 (show Rd _ A l from hr_5)) (Rd.of_below hb6 (show Rd _ A4 X from hrd4_5)) hrd5_6 HN.out)
    | (go_at_call 20; refine (num_any _ _ (by omega)).mono ?_; rintro e w' ⟨rfl, rfl⟩))
  clear hheld6 hcv6 hrd6 hb6 hown6 hrd5 hx5 hrd4_5 hrm_5 hrd3_5 hr2_5 hr_5 hcell_5 hw1 hw2 hn4 hn3 hn0 hnc' hb5w
  go_wp2_with fail
  go_loopw [12] (fun t wr => ∃ j : Nat, j ≤ X.length ∧ t = .int .i64 j ∧ XRow 5 wr w3.heap.size (.slice A4 X.length c4) X.length ∧ Below w.heap.size w6 wr) (fun t _ => X.length - (intOf t).toNat)
  case atStart => exact ⟨0, by omega, rfl, hx6, Below.refl _ _⟩
  case round =>
    obtain ⟨j, hj, rfl, hx, hb⟩ := hrel
    by_cases hlt : j < X.length
    · rcases hx with hx | ⟨g4, cap4, cs, e4, hg4, hrow4, hsz4, hcs4⟩
      · omega
      · injection e4 with e4 _ e5
        subst e4
        obtain ⟨q, hq⟩ := hcs4 j hlt
        have hc4 : wr.cell? ⟨g4, j, none⟩ = some (.int .u8 (q.toNat : Int)) := (hrow4.cell j).trans hq
        have hf4 := hrow4.frozen j
        have hq8 := q.toNat_lt
        have HCS := Lib.hid hcs4
        clear hq hcs4 hx6
        go_wp2_with fail
        go_roundw
        case rel =>
          refine ⟨j + 1, by omega, by go_num, .inr ⟨g4, cap4, _, by rw [e5], hg4, hrow4.set j _, by simpa using hsz4, ?_⟩, hb.setCell (p := ⟨g4, j, none⟩) (by show w.heap.size ≤ g4; omega) _⟩
          intro i hi
          by_cases e : j = i
          · subst e
            refine ⟨UInt8.ofNat (q.toNat + 1), ?_⟩
            rw [Array.getElem?_setIfInBounds_self, if_pos (by omega), byteV, UInt8.toNat_ofNat']
            congr 2
          · rw [Array.getElem?_setIfInBounds_ne e]
            exact HCS.out i hi
        case measure => simp [intOf]; omega
    · obtain rfl : j = X.length := by omega
      have hb7 : Below w.heap.size w wr := hb6w.trans hb
      have hr2_7 := hr2.below hb7
      have hrd5_7 := HW.out _ hr2_7
      clear hx hx6 hb hb6w
      go_wp2_with fail
      refine (refOpen_any B m cb k _ HM.out (by omega) hcb hr2_7).mono ?_
      rintro e w8 ⟨A8, c8, rfl, hrdW, hb8⟩
      rw [HX.out] at hrdW
      rw [HX.out, HE.out]
      have hr2_8 := hr2_7.below hb8
      have hrd8 := hrdW _ hr2_8
      have hrd5_8 := HW.out _ hr2_8
      replace hb8 := below_step hb7 hb7.size hb8
      clear hrdW
      have hcv8 := strOf (c := c8) hrd8 rfl
      have hcv5 := strOf (c := c5) hrd5_8 rfl
      go_wp2_with (first | (go_at_call 11; refine (works_any _).mono ?_; rintro e w9 ⟨rfl, hb9⟩))
      go_ret
      exact ⟨rfl, below_step hb8 hb8.size hb9⟩
theorem crcSeals_walk (A : Option Addr) (n ca : Nat) (l : List UInt8) (B : Option Addr) (m cb : Nat) (k : List UInt8) (w : World) (hi1 : InBytes w A n ca l) (hi2 : InBytes w B m cb k) :
    Calls Try.prog 6 #[.slice A n ca, .slice B m cb] w fun e w' => e = .returned (.bool true) ∧ Below w.heap.size w w' := by
  obtain ⟨hn, hc, hm, hr⟩ := hi1
  obtain ⟨hn2, hc2, hm2, hr2⟩ := hi2
  unfold maxLen at hm hm2
  by_cases h1 : n ≤ 500
  · by_cases h2 : m ≤ 500
    · exact crcSeals_yes A B n ca m cb l k w hn hn2 h1 h2 hc2 hr hr2
    · have hd1 : decide ((500 : Int) < (n : Int)) = false := by simp; omega
      have hd2 : decide ((500 : Int) < (m : Int)) = true := by simp; omega
      clear hn hn2 hr hr2
      go_enter Try.func6, Try.ntmps6
      go_wp2_with (first | (go_at_call 11; refine (works_any _).mono ?_; rintro e w9 ⟨rfl, hb9⟩))
      go_ret
      exact ⟨rfl, hb9⟩
  · have hd1 : decide ((500 : Int) < (n : Int)) = true := by simp; omega
    clear hn hn2 hr hr2
    go_enter Try.func6, Try.ntmps6
    go_wp2_with (first | (go_at_call 11; refine (works_any _).mono ?_; rintro e w9 ⟨rfl, hb9⟩))
    go_ret
    exact ⟨rfl, hb9⟩
end Go.Proofs.Ytkgpagkhheglgaa
