/- money: Mids and Shares: the statements' walks. -/
import Derived.Test.YtcfhhljjknmniaaDoorMm13
set_option linter.unusedVariables false
set_option linter.unusedSimpArgs false
namespace Go.Proofs.YtcfhhljjknmniaaDoor
open Go.RowKit
set_option maxRecDepth 100000 in
theorem moneyMids_walk (a : Int) (wa : (Lit.int .i64 a).wf = true) (b : Int) (wb : (Lit.int .i64 b).wf = true) (w : World) (hT : Tabs w) :
    Calls Tryd.prog 6 #[.int .i64 a, .int .i64 b] w fun e w' => e = .returned (.bool true) ∧ Below w.heap.size w w' := by
  refine Calls.post fun Φ HΦ => ?_
  have h1 := mid_any a b w
  have h2 := fun W => refMid_any a b W
  have h3 := fun W (h : Later w W) => works_yes W (hT.later h)
  clear hT wa wb
  generalize midS a b = r at *
  obtain ⟨x, y⟩ := r
  go_enter Tryd.func6, Tryd.ntmps6
  go_wp2_with (first
    | (go_at_call 24; refine h1.mono ?_; clear h1; rintro e w1 ⟨rfl, hL1⟩)
    | (go_at_call 25; refine (h2 _).mono ?_; clear h2; rintro e w2 ⟨rfl, rfl⟩)
    | (go_at_call 15; refine (num5_any _ _).mono ?_; rintro e wb ⟨rfl, rfl⟩)
    | (go_at_call 9; refine (h3 _ hL1).mono ?_; clear h3; rintro e w4 ⟨rfl, hL4⟩)
    | fail)
  exact HΦ.out _ _ ⟨rfl, Later.step hL1 hL4⟩
set_option maxRecDepth 100000 in
theorem moneyShares_walk (a : Int) (wa : (Lit.int .i64 a).wf = true) (b : Int) (wb : (Lit.int .i64 b).wf = true) (w : World) (hT : Tabs w) :
    Calls Tryd.prog 4 #[.int .i64 a, .int .i64 b] w fun e w' => e = .returned (.bool true) ∧ Below w.heap.size w w' := by
  refine Calls.post fun Φ HΦ => ?_
  have h1 := share_any a b w
  have h2 := fun W => refShare_any a b W
  have h3 := fun W (h : Later w W) => works_yes W (hT.later h)
  clear hT wa wb
  generalize shareS a b = r at *
  obtain ⟨x, y⟩ := r
  go_enter Tryd.func4, Tryd.ntmps4
  go_wp2_with (first
    | (go_at_call 18; refine h1.mono ?_; clear h1; rintro e w1 ⟨rfl, hL1⟩)
    | (go_at_call 19; refine (h2 _).mono ?_; clear h2; rintro e w2 ⟨rfl, rfl⟩)
    | (go_at_call 15; refine (num5_any _ _).mono ?_; rintro e wb ⟨rfl, rfl⟩)
    | (go_at_call 9; refine (h3 _ hL1).mono ?_; clear h3; rintro e w4 ⟨rfl, hL4⟩)
    | fail)
  exact HΦ.out _ _ ⟨rfl, Later.step hL1 hL4⟩
end Go.Proofs.YtcfhhljjknmniaaDoor
