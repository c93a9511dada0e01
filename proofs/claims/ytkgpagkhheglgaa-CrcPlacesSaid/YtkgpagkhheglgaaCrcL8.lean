/- The walks of the laws CrcNoughts, CrcPatches. -/
import Derived.Test.YtkgpagkhheglgaaCrcL7
import Derived.Test.YtkgpagkhheglgaaCrcL3
namespace Go.Proofs.Ytkgpagkhheglgaa
open Go.RowKit
theorem crcNoughts_walk (a : Int) (wa : (Lit.int .u32 a).wf = true) (n : Int) (wn : (Lit.int .i64 n).wf = true) (w : World) :
    Calls Try.prog 5 #[.int .u32 a, .int .i64 n] w fun e w' => e = .returned (.bool true) ∧ Below w.heap.size w w' := by
  obtain ⟨s, rfl⟩ := wf_u32 wa
  obtain ⟨_, hn2⟩ := bounds_i64 wn
  clear wa wn
  by_cases h : n < 0 ∨ 1099511627776 < n
  · have H := Lib.hid h
    clear h
    have ht : ((0 : Int) == 0) = true := rfl
    go_enter Try.func5, Try.ntmps5
    go_wp2_with fail
    refine (noughts_no s n _ H.out hn2).mono ?_
    rintro e w' ⟨rfl, rfl⟩
    go_wp2_with fail
    refine (refNoughts_no s n _ H.out hn2).mono ?_
    rintro e w' ⟨rfl, rfl⟩
    go_wp2_with (first
      | (go_at_call 20; refine (num_any _ _ (by omega)).mono ?_; rintro e w' ⟨rfl, rfl⟩)
      | (go_at_call 11; refine (works_any _).mono ?_; rintro e w9 ⟨rfl, hb9⟩))
    go_ret
    exact ⟨rfl, hb9⟩
  · obtain ⟨m, rfl⟩ : ∃ m : Nat, n = (m : Int) := ⟨n.toNat, by omega⟩
    have hm : m ≤ 1099511627776 := by omega
    clear h
    have ht : (((noughts s m).toNat : Int) == ((noughts s m).toNat : Int)) = true := beq_self_eq_true _
    go_enter Try.func5, Try.ntmps5
    go_wp2_with fail
    refine (noughts_yes s m _ hm).mono ?_
    rintro e w1 ⟨rfl, hb1⟩
    go_wp2_with fail
    refine (refNoughts_yes s m _ hm).mono ?_
    rintro e w2 ⟨rfl, hb2⟩
    replace hb2 := below_step hb1 hb1.size hb2
    go_wp2_with (first
      | (go_at_call 20; refine (num_any _ _ (by omega)).mono ?_; rintro e w' ⟨rfl, rfl⟩)
      | (go_at_call 11; refine (works_any _).mono ?_; rintro e w9 ⟨rfl, hb9⟩))
    go_ret
    exact ⟨rfl, below_step hb2 hb2.size hb9⟩
theorem crcPatches_walk (a : Int) (wa : (Lit.int .u32 a).wf = true) (b : Int) (wb : (Lit.int .u32 b).wf = true) (c : Int) (wc : (Lit.int .u32 c).wf = true) (n : Int) (wn : (Lit.int .i64 n).wf = true) (w : World) :
    Calls Try.prog 8 #[.int .u32 a, .int .u32 b, .int .u32 c, .int .i64 n] w fun e w' => e = .returned (.bool true) ∧ Below w.heap.size w w' := by
  obtain ⟨s, rfl⟩ := wf_u32 wa
  obtain ⟨x, rfl⟩ := wf_u32 wb
  obtain ⟨y, rfl⟩ := wf_u32 wc
  obtain ⟨_, hn2⟩ := bounds_i64 wn
  clear wa wn wb wc
  by_cases h : n < 0 ∨ 1099511627776 < n
  · have H := Lib.hid h
    clear h
    have ht : ((0 : Int) == 0) = true := rfl
    go_enter Try.func8, Try.ntmps8
    go_wp2_with fail
    refine (patch_no s x y n _ H.out hn2).mono ?_
    rintro e w' ⟨rfl, rfl⟩
    go_wp2_with fail
    refine (refPatch_no s x y n _ H.out hn2).mono ?_
    rintro e w' ⟨rfl, rfl⟩
    go_wp2_with (first
      | (go_at_call 20; refine (num_any _ _ (by omega)).mono ?_; rintro e w' ⟨rfl, rfl⟩)
      | (go_at_call 11; refine (works_any _).mono ?_; rintro e w9 ⟨rfl, hb9⟩))
    go_ret
    exact ⟨rfl, hb9⟩
  · obtain ⟨m, rfl⟩ : ∃ m : Nat, n = (m : Int) := ⟨n.toNat, by omega⟩
    have hm : m ≤ 1099511627776 := by omega
    clear h
    have ht : (((patch s x y m).toNat : Int) == ((patch s x y m).toNat : Int)) = true := beq_self_eq_true _
    go_enter Try.func8, Try.ntmps8
    go_wp2_with fail
    refine (patch_yes s x y m _ hm).mono ?_
    rintro e w1 ⟨rfl, hb1⟩
    go_wp2_with fail
    refine (refPatch_yes s x y m _ hm).mono ?_
    rintro e w2 ⟨rfl, hb2⟩
    replace hb2 := below_step hb1 hb1.size hb2
    go_wp2_with (first
      | (go_at_call 20; refine (num_any _ _ (by omega)).mono ?_; rintro e w' ⟨rfl, rfl⟩)
      | (go_at_call 11; refine (works_any _).mono ?_; rintro e w9 ⟨rfl, hb9⟩))
    go_ret
    exact ⟨rfl, below_step hb2 hb2.size hb9⟩
end Go.Proofs.Ytkgpagkhheglgaa
