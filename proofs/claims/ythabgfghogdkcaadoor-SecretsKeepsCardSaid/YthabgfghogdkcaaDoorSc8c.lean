/- Walks, secrets: Get, Same. -/
import Derived.Test.YthabgfghogdkcaaDoorSc8b
set_option linter.unusedVariables false
set_option linter.unusedSimpArgs false
namespace Go.Proofs.YthabgfghogdkcaaDoor
open Go.RowKit
theorem loadKeepC {w : World} {g : Nat} {cs : Array Value} (hz : cs.size = 1058) (hr : Row w g 60 cs) : (Instr.loadAt 60 (.pointer (some ⟨g, 0, none⟩))).run Tryd.prog w = .ok (.agg cs) w :=
  run_load_row hr Tryd.underlying60 rfl (by rw [hz]; exact infoK)
set_option maxRecDepth 100000 in
set_option maxHeartbeats 2000000 in
theorem same_yes (g k : Nat) (n : Int) (ix : Nat → Nat) (sc : Nat → List UInt8) (w : World) (hs : ∀ p, (sc p).length = 32) (hr : Row w g 60 (kC n ix sc true)) (hr2 : Row w k 60 (kC n ix sc true)) :
    Calls Tryd.prog 21 #[.pointer (some ⟨g, 0, none⟩), .pointer (some ⟨k, 0, none⟩)] w fun e w' => e = .returned (.bool true) ∧ Below w.heap.size w w' := by
  have heq := fun W => eqKeep n ix sc hs W
  have hz := kC_size n ix sc true
  have hn1 := knone_no g n ix sc w hr
  have hn2 := knone_no k n ix sc w hr2
  have hg : ∀ (x y : Operand) (W : World), (eqGuard .eql 60 x y (.agg (kC n ix sc true)) (.agg (kC n ix sc true))).run Tryd.prog W = .ok () W := fun x y W => run_eqGuard_agg W .eql _ x y _ _ (by kernel_rfl)
  have HZ := Lib.hid hz
  clear hs hz
  generalize kC n ix sc true = cs at *
  have HE := Lib.hid heq
  have HGD := Lib.hid hg
  clear heq hg
  go_enter Tryd.func21, Tryd.ntmps21
  go_wp2_with fail
  refine hn1.mono ?_
  rintro e w2 ⟨rfl, rfl⟩
  go_wp2_with fail
  refine hn2.mono ?_
  rintro e w3 ⟨rfl, rfl⟩
  go_upto_region 3 with fail
  clear hn1 hn2
  refine (wpIn_wide (n := 0)).1 ?_
  refine wpIn_region_vals wide_wide [Pr.eq (.pointer (some ⟨g, 0, none⟩)), Pr.eq (.pointer (some ⟨g, 0, none⟩)), Pr.eq (.agg cs), Pr.eq (.pointer (some ⟨k, 0, none⟩)), Pr.eq (.pointer (some ⟨k, 0, none⟩)), Pr.eq (.agg cs), Pr.eq (.bool true), Pr.eq (.bool true)] (by kernel_rfl) (by kernel_rfl) (by kernel_rfl) (by kernel_rfl) (by kernel_rfl) ⟨?_, ?_, ?_, ?_, ?_, ?_, ?_, ?_, trivial⟩ ?_
  · exact fun ac W hL he => stepOk_want rfl (op_move rfl (he.keep (.tmp 0) (by kernel_rfl)))
  · exact fun ac W hL he => stepOk_want rfl (op_nil rfl (he.get 0 17 (by kernel_rfl) rfl) rfl)
  · exact fun ac W hL he => stepOk_want rfl (op_load rfl (he.get 1 18 (by kernel_rfl) rfl) (loadKeepC HZ.out (hr.later hL)) rfl)
  · exact fun ac W hL he => stepOk_want rfl (op_move rfl (he.keep (.tmp 1) (by kernel_rfl)))
  · exact fun ac W hL he => stepOk_want rfl (op_nil rfl (he.get 3 20 (by kernel_rfl) rfl) rfl)
  · exact fun ac W hL he => stepOk_want rfl (op_load rfl (he.get 4 21 (by kernel_rfl) rfl) (loadKeepC HZ.out (hr2.later hL)) rfl)
  · exact fun ac W hL he => stepOk_want rfl (op_binOp rfl (he.get 2 19 (by kernel_rfl) rfl) (he.get 5 22 (by kernel_rfl) rfl) (HGD.out _ _ _) (HE.out _) rfl)
  · exact fun ac W hL he => stepOk_want rfl (op_assign rfl (he.get 6 23 (by kernel_rfl) rfl))
  intro xs W hL2 hxs
  have h7 : xs 7 = .bool true := hxs 7 (by decide)
  clear hxs
  simp only [putL, Nat.reduceAdd, Act.put, List.setIfInBounds_toArray, List.set_cons_succ, List.set_cons_zero, h7]
  clear h7
  go_wp2_with fail
  go_ret
  exact ⟨rfl, hL2⟩
end Go.Proofs.YthabgfghogdkcaaDoor
