/- WireBounds: the walk. -/
import Derived.Test.YtmipaacobioakaaWr28
set_option linter.unusedVariables false
set_option linter.unusedSimpArgs false
namespace Go.Proofs.Ytmipaacobioakaa
open Go.RowKit
/-- So many noughts. -/
def zeroB (n : Nat) : List UInt8 := List.replicate n 0
theorem zeroB_len (n : Nat) : (zeroB n).length = n := List.length_replicate
theorem run_make_bytes {P : Program} {t U : TypeId} (ht : P.underlying t = some (.slice U)) (hi : ByteInfo P U) (n : Nat) (hn : n ≤ 1099511627776) (w : World) :
    (Instr.makeSlice t (.int .i64 (n : Int)) (.int .i64 (n : Int))).run P w = .ok (.slice (some ⟨w.heap.size, 0, none⟩) n n) (w.alloc (.cells ((zeroB n).map byteV).toArray U)) := by
  obtain ⟨i, hi0, hz, hs, hb⟩ := info_parts hi
  have h := run_make (P := P) w t U i _ ht hi0 hz .i64 .i64 (n : Int) (n : Int) (by omega) (Int.le_refl _) (by rw [hb]; omega) (by omega)
  rw [h, Int.toNat_natCast, hs]
  congr 3
  apply Array.ext
  · simp [madeCells, zeroB]
  · intro j h1 h2
    simp [madeCells, zeroB, Value.cells, Nat.mod_one]
set_option maxRecDepth 100000 in
set_option maxHeartbeats 4000000 in
theorem wireBounds_yes (more : Int) (w : World) (h1 : -2 ≤ more) (h2 : more ≤ 2) (h3 : ¬ 0 < more) :
    Calls Try.prog 6 #[.int .i64 more] w fun e w' => e = .returned (.bool true) ∧ Below w.heap.size w w' := by
  have d1 : decide (more < -2) = false := decide_eq_false (by omega)
  have d2 : decide ((2 : Int) < more) = false := decide_eq_false (by omega)
  have d3 : decide ((0 : Int) < more) = false := by simpa using h3
  obtain ⟨n1, hn1⟩ : ∃ n1 : Nat, (1048576 : Int) + more = n1 := ⟨(1048576 + more).toNat, by omega⟩
  obtain ⟨n2, hn2⟩ : ∃ n2 : Nat, (8192 : Int) + more = n2 := ⟨(8192 + more).toNat, by omega⟩
  have hmk1 := fun w' => run_make_bytes (P := Try.prog) Try.underlying22 byteInfo n1 (by omega) w'
  have hmk2 := fun w' => run_make_bytes (P := Try.prog) Try.underlying22 byteInfo n2 (by omega) w'
  have hz1 := zeroB_len n1
  have hz2 := zeroB_len n2
  generalize zeroB n1 = z1 at *
  generalize zeroB n2 = z2 at *
  have hb1 : n1 ≤ 1048576 := by omega
  have hb2 : n2 ≤ 8192 := by omega
  have hb3 : n1 ≤ 2000000 ∧ 0 < n2 ∧ n2 ≤ 10000 := by omega
  obtain ⟨hb3, hb4, hb5⟩ := hb3
  have H3 := Lib.hid h3
  clear h1 h2 h3
  refine Calls.post fun Φ HΦ => ?_
  have hnew := new_any w
  have HZ1 := Lib.hid hz1
  have HZ2 := Lib.hid hz2
  clear hz1 hz2
  have hcv1 := fun W B c (h : Rd W B z1) => run_string_rd (P := Try.prog) W 22 9 5 B n1 c z1 Try.underlying22 Try.underlying5 Try.underlying9 HZ1.out h
  have HCV := Lib.hid hcv1
  clear hcv1
  have HB1 := Lib.hid hb1
  clear hb1
  go_enter Try.func6, Try.ntmps6
  go_upto_region 7 with (first
    | (go_at_call 10; refine hnew.mono ?_; clear hnew; rintro e w1 ⟨rfl, hw1, hL1, hlt1⟩)
    | fail)
  obtain ⟨g, hg⟩ : ∃ g, g = w.heap.size := ⟨_, rfl⟩
  rw [← hg] at hw1 hlt1 ⊢
  have HG := Lib.hid hg
  clear hg
  have hcv := HCV.out (w1.alloc (.cells (z1.map byteV).toArray 5)) (some ⟨w1.heap.size, 0, none⟩) n1 (Rd.lit w1 _ z1)
  have htx := wText_any g none [] z1 (w1.alloc (.cells (z1.map byteV).toArray 5)) (by rw [HZ1.out]; omega) (by simp) (hw1.later ((Later.refl w1).alloc _))
  rw [HZ1.out] at htx
  have hsp := Wr.split_frame z2 [] (by rw [HZ2.out]; exact hb2)
  rw [List.append_nil] at hsp
  have hfr := fun W (hL : Later w W) => frame_any (some ⟨W.heap.size, 0, none⟩) n2 n2 z2 (W.alloc (.cells (z2.map byteV).toArray 5)) HZ2.out (by omega) (Rd.lit W _ z2)
  rw [if_pos hb2, if_pos hb2] at hfr
  have hfl : 0 < (Wr.frame z2).length ∧ (Wr.frame z2).length ≤ 20000 := by
    have := Wr.bytes_le (z2.length + 4)
    have := HZ2.out
    unfold Wr.frame
    rw [List.length_append, List.length_append, low4_len]
    omega
  obtain ⟨L2, hL2⟩ : ∃ L2, (Wr.frame z2).length = L2 := ⟨_, rfl⟩
  rw [hL2] at hfl hsp
  generalize Wr.frame z2 = F at *
  have hl1 : ([] ++ (Wr.bytes n1 ++ z1)).length = (Wr.bytes n1).length + n1 := by simp [HZ1.out]
  obtain ⟨L1, hL1e⟩ : ∃ L1, ([] ++ (Wr.bytes n1 ++ z1)).length = L1 := ⟨_, rfl⟩
  have hl2 : 0 < L1 ∧ L1 ≤ 3000000 := by have := Wr.bytes_le n1; omega
  generalize [] ++ (Wr.bytes n1 ++ z1) = T at *
  have e1 : ((L1 : Int) == 0) = false := by simp; omega
  have e2 : ((L2 : Int) == 0) = false := by simp; omega
  have hsf := fun W A c (hc : L2 ≤ c) (hcm : c ≤ 9223372036854775807) (h : Rd W A F) => split_any A L2 c F W hL2 hc hcm h
  rw [hsp] at hsf
  have HSF := Lib.hid hsf
  have HL2 := Lib.hid hL2
  have HLE := Lib.hid hL1e
  have HT := Lib.hid htx
  have HFR := Lib.hid hfr
  have HN2 := hn2
  clear hsf hL2 hL1e hl1 hsp htx hfr
  have htx := HT.out
  go_upto_region 8 with (first
    | (go_at_call 28; refine htx.mono ?_; clear htx; rintro e w3 (⟨h, _⟩ | ⟨_, rfl, r3, hw3, hwr3⟩); exact absurd h (by have := HB1.out; omega))
    | fail)
  have hL3 : Later w w3 := later_of_wrote (hL1.alloc _) (by have := HG.out; omega) (fun k e => by cases e) hwr3
  have hfr := HFR.out w3 hL3
  clear hcv hw1 hL1 hlt1 hwr3 hmk1
  go_upto_region 9 with (first
    | (go_at_call 29; refine hfr.mono ?_; clear hfr; rintro e w4 ⟨v4, rfl, hown4, hb4'⟩; obtain ⟨A4, c4, rfl, hc4, hcm4, hrd4⟩ := hown4.slice)
    | fail)
  rw [HL2.out] at hc4
  have hL34 := ((Later.refl w3).alloc (.cells (z2.map byteV).toArray 5)).call hb4'
  have hL4 := hL3.step hL34
  have hall := all_any g r3 T w4 (by rw [HLE.out]; omega) (hw3.later hL34)
  have hll : ∀ W, Later w4 W → Rd W A4 F := fun W hL => hrd4.later hL
  have HRD := Lib.hid hll
  clear hL34 hw3 hL3 hb4' hown4 hrd4 hll
  rw [HL2.out]
  have hcm4' : c4 ≤ 9223372036854775807 := hcm4
  go_wp2_with (first
    | (go_at_call 13; refine (numE_any _ _).mono ?_; rintro e w' ⟨rfl, rfl⟩)
    | (go_at_call 14; refine hall.mono ?_; clear hall; rintro e w5 ⟨v5, rfl, hown5, hL5⟩; obtain ⟨A5, c5, rfl, hc5, hcm5, hrd5⟩ := hown5.slice; rw [HLE.out]; have hsf := HSF.out w5 A4 c4 hc4 hcm4' (HRD.out w5 hL5))
    | (go_at_call 30; refine hsf.mono ?_; clear hsf; rintro e w6 ⟨v6, rfl, hown6, hb6⟩; obtain ⟨A6, c6, rfl, hc6, hcm6, hrd6⟩ := hown6.slice; rw [HZ2.out])
    | (go_at_call 9; refine (wworks_any _).mono ?_; rintro e w7 ⟨rfl, hL7⟩)
    | fail)
  exact HΦ.out _ _ ⟨rfl, ((hL4.step hL5).call hb6).step hL7⟩
set_option maxRecDepth 100000 in
set_option maxHeartbeats 4000000 in
theorem wireBounds_no (more : Int) (w : World) (h1 : -2 ≤ more) (h2 : more ≤ 2) (h3 : 0 < more) :
    Calls Try.prog 6 #[.int .i64 more] w fun e w' => e = .returned (.bool true) ∧ Below w.heap.size w w' := by
  have d1 : decide (more < -2) = false := decide_eq_false (by omega)
  have d2 : decide ((2 : Int) < more) = false := decide_eq_false (by omega)
  have d3 : decide ((0 : Int) < more) = true := by simpa using h3
  obtain ⟨n1, hn1⟩ : ∃ n1 : Nat, (1048576 : Int) + more = n1 := ⟨(1048576 + more).toNat, by omega⟩
  obtain ⟨n2, hn2⟩ : ∃ n2 : Nat, (8192 : Int) + more = n2 := ⟨(8192 + more).toNat, by omega⟩
  have hmk1 := fun w' => run_make_bytes (P := Try.prog) Try.underlying22 byteInfo n1 (by omega) w'
  have hmk2 := fun w' => run_make_bytes (P := Try.prog) Try.underlying22 byteInfo n2 (by omega) w'
  have hz1 := zeroB_len n1
  have hz2 := zeroB_len n2
  generalize zeroB n1 = z1 at *
  generalize zeroB n2 = z2 at *
  have hb1 : 1048576 < n1 := by omega
  have hb2 : 8192 < n2 := by omega
  have hb3 : n1 ≤ 2000000 ∧ 0 < n2 ∧ n2 ≤ 10000 := by omega
  obtain ⟨hb3, hb4, hb5⟩ := hb3
  have H3 := Lib.hid h3
  clear h1 h2 h3
  refine Calls.post fun Φ HΦ => ?_
  have hnew := new_any w
  have HZ1 := Lib.hid hz1
  have HZ2 := Lib.hid hz2
  clear hz1 hz2
  have hcv1 := fun W B c (h : Rd W B z1) => run_string_rd (P := Try.prog) W 22 9 5 B n1 c z1 Try.underlying22 Try.underlying5 Try.underlying9 HZ1.out h
  have HCV := Lib.hid hcv1
  clear hcv1
  have HB1 := Lib.hid hb1
  clear hb1
  have h82 : ¬ n2 ≤ 8192 := by omega
  go_enter Try.func6, Try.ntmps6
  go_upto_region 7 with (first
    | (go_at_call 10; refine hnew.mono ?_; clear hnew; rintro e w1 ⟨rfl, hw1, hL1, hlt1⟩)
    | fail)
  obtain ⟨g, hg⟩ : ∃ g, g = w.heap.size := ⟨_, rfl⟩
  rw [← hg] at hw1 hlt1 ⊢
  have HG := Lib.hid hg
  clear hg
  have hcv := HCV.out (w1.alloc (.cells (z1.map byteV).toArray 5)) (some ⟨w1.heap.size, 0, none⟩) n1 (Rd.lit w1 _ z1)
  have htx := wText_any g none [] z1 (w1.alloc (.cells (z1.map byteV).toArray 5)) (by rw [HZ1.out]; omega) (by simp) (hw1.later ((Later.refl w1).alloc _))
  rw [HZ1.out] at htx
  have hfr := fun W (hL : Later w W) => frame_any (some ⟨W.heap.size, 0, none⟩) n2 n2 z2 (W.alloc (.cells (z2.map byteV).toArray 5)) HZ2.out (by omega) (Rd.lit W _ z2)
  rw [if_neg h82, if_neg h82] at hfr
  have HT := Lib.hid htx
  have HFR := Lib.hid hfr
  clear htx hfr
  have htx := HT.out
  go_upto_region 8 with (first
    | (go_at_call 28; refine htx.mono ?_; clear htx; rintro e w3 (⟨_, rfl, rfl⟩ | ⟨h, _⟩); rotate_left; exact absurd h (by have := HB1.out; omega))
    | fail)
  have hL3 : Later w (w1.alloc (.cells (z1.map byteV).toArray 5)) := hL1.alloc _
  have hw3 := hw1.later ((Later.refl w1).alloc (.cells (z1.map byteV).toArray 5))
  clear hcv hw1 hL1 hlt1 hmk1
  generalize w1.alloc (.cells (z1.map byteV).toArray 5) = w3 at *
  have hfr := HFR.out w3 hL3
  go_upto_region 9 with (first
    | (go_at_call 29; refine hfr.mono ?_; clear hfr; rintro e w4 ⟨v4, rfl, hown4, hb4'⟩; obtain ⟨A4, c4, rfl, hc4, hcm4, hrd4⟩ := hown4.slice)
    | fail)
  have hL34 := ((Later.refl w3).alloc (.cells (z2.map byteV).toArray 5)).call hb4'
  have hL4 := hL3.step hL34
  have hall := all_any g none [] w4 (by simp) (hw3.later hL34)
  clear hL34 hw3 hL3 hb4' hown4 hrd4
  go_wp2_with (first
    | (go_at_call 13; refine (numE_any _ _).mono ?_; rintro e w' ⟨rfl, rfl⟩)
    | (go_at_call 14; refine hall.mono ?_; clear hall; rintro e w5 ⟨v5, rfl, hown5, hL5⟩; obtain ⟨A5, c5, rfl, hc5, hcm5, hrd5⟩ := hown5.slice)
    | (go_at_call 9; refine (wworks_any _).mono ?_; rintro e w7 ⟨rfl, hL7⟩)
    | fail)
  exact HΦ.out _ _ ⟨rfl, (hL4.step hL5).step hL7⟩
set_option maxRecDepth 100000 in
set_option maxHeartbeats 1000000 in
theorem wireBounds_out (more : Int) (w : World) (h : more < -2 ∨ 2 < more) :
    Calls Try.prog 6 #[.int .i64 more] w fun e w' => e = .returned (.bool true) ∧ Below w.heap.size w w' := by
  by_cases h1 : more < -2
  · have d1 : decide (more < -2) = true := decide_eq_true h1
    go_enter Try.func6, Try.ntmps6
    go_wp2_with (first
      | (go_at_call 9; refine (wworks_any _).mono ?_; rintro e w7 ⟨rfl, hL7⟩)
      | fail)
    go_ret
    exact ⟨rfl, hL7⟩
  · have d1 : decide (more < -2) = false := decide_eq_false h1
    have d2 : decide ((2 : Int) < more) = true := decide_eq_true (by omega)
    go_enter Try.func6, Try.ntmps6
    go_wp2_with (first
      | (go_at_call 9; refine (wworks_any _).mono ?_; rintro e w7 ⟨rfl, hL7⟩)
      | fail)
    go_ret
    exact ⟨rfl, hL7⟩
theorem wireBounds_walk (more : Int) (wm : (Lit.int .i64 more).wf = true) (w : World) :
    Calls Try.prog 6 #[.int .i64 more] w fun e w' => e = .returned (.bool true) ∧ Below w.heap.size w w' := by
  by_cases h : more < -2 ∨ 2 < more
  · exact wireBounds_out more w h
  · by_cases h3 : 0 < more
    · exact wireBounds_no more w (by omega) (by omega) h3
    · exact wireBounds_yes more w (by omega) (by omega) h3
end Go.Proofs.Ytmipaacobioakaa
