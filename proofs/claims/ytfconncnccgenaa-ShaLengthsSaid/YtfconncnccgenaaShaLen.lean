/- ShaLengths: the walk. -/
import Derived.Test.YtfconncnccgenaaShaE
import Derived.Test.YtfconncnccgenaaLaw
set_option linter.unusedVariables false
set_option linter.unusedSimpArgs false
namespace Go.Proofs.Ytfconncnccgenaa
open Go.RowKit Go.ChangeShapes Go.WideShapes Go.ChangeAt
theorem xor_range (a b : Int) (h1 : 0 ≤ a) (h2 : a < 256) (h3 : 0 ≤ b) (h4 : b < 256) : 0 ≤ bits .xor .u8 a b ∧ bits .xor .u8 a b < 256 := by
  rw [u8_xor a b h1 h2 h3 h4]
  have := Nat.xor_lt_two_pow (x := a.toNat) (y := b.toNat) (n := 8) (by omega) (by omega)
  omega
set_option maxRecDepth 100000 in
set_option maxHeartbeats 1000000 in
theorem shaLengths_main (n : Nat) (sg : Int) (w : World) (hn : n ≤ 700) (hs0 : 0 ≤ sg) (hs1 : sg < 256) :
    Calls Try.prog 3 #[.int .i64 (n : Int), .int .u8 sg] w fun e w' => e = .returned (.bool true) ∧ Below w.heap.size w w' := by
  have hd1 : decide ((n : Int) < 0) = false := by simp
  have hd2 : decide ((700 : Int) < (n : Int)) = false := by simp; omega
  go_enter Try.func3, Try.ntmps3
  go_wp2
  go_loopw [5, 6] (fun v t wr => ∃ (k : Nat) (l : List UInt8), k ≤ n ∧ l.length = k ∧ t = .int .i64 k ∧ Own 5 wr w.heap.size v l ∧ Below w.heap.size w wr) (fun _ t _ => n - (intOf t).toNat)
  case atStart => exact ⟨0, [], by omega, rfl, rfl, Own.nil _ _ _, Below.refl _ _⟩
  case round =>
    obtain ⟨k, l, hk, hl, rfl, hown, hb⟩ := hrel
    by_cases hlt : k < n
    · have HL := Lib.hid hl
      clear hl
      go_wp2_with (first
        | (at_builtin; refine wpList_append_bytes rfl (.tmp 19) (.tmp 29) 23 rfl w.heap.size 5 Try.underlying23 byteInfo8 _ l rfl (hown.alloc _) (some ⟨wr.heap.size, 0, none⟩) 1 1 [UInt8.ofNat (Int.toNat _)] rfl rfl (Rd.byteZ ?h0 ?h1) (by have := HL.out; omega) (by have := hb.size; simp; omega) ?_; rotate_left; rotate_left; intro v2 w2 hown2 hg2 hat2)
        | fail)
      case h0 => exact (xor_range _ _ (by omega) (by omega) (by omega) (by omega)).1
      case h1 => exact (xor_range _ _ (by omega) (by omega) (by omega) (by omega)).2
      go_roundw
      case rel => exact ⟨k + 1, _, by omega, by rw [List.length_append, HL.out]; rfl, by go_num, hown2, (hb.alloc hb.size _).grown hg2 (by have := hb.size; simp; omega) (fun j hj => (hown.at_ j hj).1)⟩
      case measure => simp [intOf]; omega
    · obtain rfl : k = n := by omega
      obtain ⟨A, c, rfl, hc1, hc2, hrd⟩ := hown.slice
      unfold maxLen at hc2
      have hc2' : c ≤ 9223372036854775807 := by omega
      rw [hl] at hc1 ⊢
      obtain ⟨h1, hh1⟩ : ∃ y, Sha.sum l = y := ⟨_, rfl⟩
      have hl1 : h1.length = 32 := by rw [← hh1]; exact Sha.sum_len _
      obtain ⟨h2, hh2⟩ : ∃ y, Sha.sum (Sha.sum l) = y := ⟨_, rfl⟩
      have hl2 : h2.length = 32 := by rw [← hh2]; exact Sha.sum_len _
      have s1 := fun (W : World) (hr : Rd W A l) => sum_at A k c l h1 23 W hr hl hc1 hc2' (by omega) hh1
      have s2 := fun (W : World) (hr : Rd W A l) => refSum_any A k c l W hl (by omega) hr
      have s3 := fun (W : World) (hr : Rd W A l) => twice_at A k c l h2 23 W hr hl hc1 hc2' (by omega) hh2
      have s4 := fun (W : World) (hr : Rd W A l) => refTwice_any A k c l W hl (by omega) hr
      simp only [hh1] at s2
      simp only [hh2] at s4
      have e1 := fun W => eqlSame h1 hl1 W
      have e2 := fun W => eqlSame h2 hl2 W
      have S1 := Lib.hid s1
      have S2 := Lib.hid s2
      have S3 := Lib.hid s3
      have S4 := Lib.hid s4
      clear s1 s2 s3 s4 hh1 hh2 hown hl
      have hbs := hb.size
      go_wp2_with (first
        | (refine wpList_buildSl rfl 51 1 _ rfl #[(0, .slice A k c)] rfl (build1S _ _ _ _) ?_)
        | (go_at_call 10; refine (S1.out _ hrd).mono ?_; rintro e w1 ⟨rfl, hb1⟩; have hL1 : Later wr w1 := ((Later.refl wr).alloc _).step (hb1.mono (by simp)))
        | (go_at_call 11; refine (S2.out _ (hrd.later hL1)).mono ?_; rintro e w2 ⟨rfl, hb2⟩; have hL2 : Later wr w2 := hL1.call hb2)
        | (refine wpList_binop rfl .eql 26 26 (.tmp 33) (.tmp 35) rfl (.agg (hC h1)) (.agg (hC h1)) rfl rfl (eqgHash _ _ _ _ _ _) (e1 _) ?_)
        | (go_at_call 12; refine (S3.out _ (hrd.later hL2)).mono ?_; rintro e w3 ⟨rfl, hb3⟩; have hL3 : Later wr w3 := (hL2.alloc _).step (hb3.mono (by simp)))
        | (go_at_call 13; refine (S4.out _ (hrd.later hL3)).mono ?_; rintro e w4 ⟨rfl, hb4⟩; have hL4 : Later wr w4 := hL3.call hb4)
        | (refine wpList_binG (by rfl) .eql 26 26 (.tmp 40) (.tmp 42) rfl (.agg (hC h2)) (.agg (hC h2)) rfl rfl (eqgHash _ _ _ _ _ _) (e2 _) ?_)
        | (go_at_call 9; refine (works_yes _).mono ?_; rintro e w5 ⟨rfl, hb5⟩; have hL5 : Later wr w5 := hL4.call hb5)
        | fail)
      go_ret
      exact ⟨rfl, hb.trans (hL5.mono hbs)⟩
theorem shaLengths_out (n sg : Int) (w : World) (h : n < 0 ∨ 700 < n) :
    Calls Try.prog 3 #[.int .i64 n, .int .u8 sg] w fun e w' => e = .returned (.bool true) ∧ Below w.heap.size w w' := by
  by_cases h1 : n < 0
  · have hd1 : decide (n < 0) = true := by simpa using h1
    go_enter Try.func3, Try.ntmps3
    go_wp2_with (first | (go_at_call 9; refine (works_yes _).mono ?_; rintro e w5 ⟨rfl, hb5⟩) | fail)
    go_ret
    exact ⟨rfl, hb5⟩
  · have hd1 : decide (n < 0) = false := by simpa using h1
    have h2 : 700 < n := by omega
    have hd2 : decide (700 < n) = true := by simpa using h2
    go_enter Try.func3, Try.ntmps3
    go_wp2_with (first | (go_at_call 9; refine (works_yes _).mono ?_; rintro e w5 ⟨rfl, hb5⟩) | fail)
    go_ret
    exact ⟨rfl, hb5⟩
theorem shaLengths_walk (n : Int) (w0 : (Lit.int .i64 n).wf = true) (sg : Int) (w1 : (Lit.int .u8 sg).wf = true) (w : World) :
    Calls Try.prog 3 #[.int .i64 n, .int .u8 sg] w fun e w' => e = .returned (.bool true) ∧ Below w.heap.size w w' := by
  have hsg : 0 ≤ sg ∧ sg < 256 := by
    simp [Lit.wf, IntKind.min, IntKind.max, IntKind.signed, IntKind.bits] at w1
    omega
  by_cases h : n < 0 ∨ 700 < n
  · exact shaLengths_out n sg w h
  · obtain ⟨m, rfl⟩ : ∃ m : Nat, n = (m : Int) := ⟨n.toNat, by omega⟩
    exact shaLengths_main m sg w (by omega) (by omega) (by omega)
end Go.Proofs.Ytfconncnccgenaa
