/- ShaConstants: the walk. -/
import Derived.Test.YtfconncnccgenaaShaK3
import Derived.Test.YtfconncnccgenaaShaC
import Derived.Test.YtfconncnccgenaaOpenA
set_option linter.unusedVariables false
set_option linter.unusedSimpArgs false
namespace Go.Proofs.Ytfconncnccgenaa
open Go.RowKit
set_option maxRecDepth 100000 in
set_option maxHeartbeats 2000000 in
theorem shaConstants_walk (l : List UInt8) (hl : l.length = 64) (w : World) :
    Calls Try.prog 8 #[.agg (l.map byteV).toArray] w fun e w' => e = .returned (.bool true) ∧ Below w.heap.size w w' := by
  have hb2 := fun w : World => run_box_row (P := Try.prog) w 42 (l.map byteV).toArray (by rw [List.size_toArray, List.length_map, hl]; exact infoB64)
  have hrow := Row.new w 42 (l.map byteV).toArray
  have hb0 := below_new w (.cells (l.map byteV).toArray 42)
  have HL := Lib.hid hl
  clear hl
  go_enter Try.func8, Try.ntmps8
  go_upto_region 1 with (first
    | (with_reducible refine wpList_box rfl 42 (.tmp 0) rfl (.agg (l.map byteV).toArray) rfl (hb2 _) ?_)
    | fail)
  refine (wpIn_wide (n := 0)).1 ?_
  refine wpIn_region_vals wide_wide [Pr.eq (.bool true), Pr.eq (.bool true), Pr.eq (.agg (stC Sha.first 0)), Pr.eq (.agg (stC Sha.first 0)), Pr.eq (.bool true), Pr.eq (.bool true), Pr.eq (.bool true), Pr.eq (.agg (stC Sha.first 0)), Pr.eq (.agg (l.map byteV).toArray), Pr.eq (.agg (stC (Sha.blk Sha.first l) 0)), Pr.eq (.agg (stC Sha.first 0)), Pr.eq (.agg (l.map byteV).toArray), Pr.eq (.agg (stC (Sha.blk Sha.first l) 0)), Pr.eq (.bool true), Pr.eq (.bool true), Pr.eq (.bool true), Pr.eq (.bool true), Pr.eq (.bool true), Pr.eq (.bool true)] (by kernel_rfl) (by kernel_rfl) (by kernel_rfl) (by kernel_rfl) (by kernel_rfl) ⟨?_, ?_, ?_, ?_, ?_, ?_, ?_, ?_, ?_, ?_, ?_, ?_, ?_, ?_, ?_, ?_, ?_, ?_, ?_, trivial⟩ ?_
  · intro ac W hL he; refine stepOk_want rfl ?_; exact op_callF (vs := #[]) rfl (by simp) (enters_of Try.func30 (by kernel_rfl) rfl) ((rooted_yes W).mono fun e W' ⟨he', hb⟩ => ⟨_, he', hb, rfl⟩)
  · exact fun ac W hL he => stepOk_want rfl (op_move rfl (he.get 0 3 (by kernel_rfl) rfl))
  · intro ac W hL he; refine stepOk_yes (j := 1) (t := 4) (b := true) rfl rfl (he.get 1 4 (by kernel_rfl) rfl) ?_; exact op_callF (vs := #[]) rfl (by simp) (enters_of Try.func27 (by kernel_rfl) rfl) ((first_any W).mono fun e W' ⟨he', hb⟩ => ⟨_, he', hb ▸ (Later.refl W).alloc _, rfl⟩)
  · intro ac W hL he; refine stepOk_yes (j := 1) (t := 4) (b := true) rfl rfl (he.get 1 4 (by kernel_rfl) rfl) ?_; exact op_callF (vs := #[]) rfl (by simp) (enters_of Try.func31 (by kernel_rfl) rfl) ((refFirst_any W).mono fun e W' ⟨he', hb⟩ => ⟨_, he', hb ▸ (Later.refl W).alloc _, rfl⟩)
  · exact fun ac W hL he => stepOk_yes (j := 1) (t := 4) (b := true) rfl rfl (he.get 1 4 (by kernel_rfl) rfl) (op_binOp rfl (he.get 2 5 (by kernel_rfl) rfl) (he.get 3 6 (by kernel_rfl) rfl) (eqgSt _ _ _ _ _ W) (eqlSt Sha.first W) rfl)
  · exact fun ac W hL he => stepOk_want rfl (op_pick (b := true) rfl (he.get 1 4 (by kernel_rfl) rfl) (he.get 4 7 (by kernel_rfl) rfl))
  · exact fun ac W hL he => stepOk_want rfl (op_move rfl (he.get 5 8 (by kernel_rfl) rfl))
  · intro ac W hL he; refine stepOk_yes (j := 6) (t := 9) (b := true) rfl rfl (he.get 6 9 (by kernel_rfl) rfl) ?_; exact op_callF (vs := #[]) rfl (by simp) (enters_of Try.func27 (by kernel_rfl) rfl) ((first_any W).mono fun e W' ⟨he', hb⟩ => ⟨_, he', hb ▸ (Later.refl W).alloc _, rfl⟩)
  · exact fun ac W hL he => stepOk_yes (j := 6) (t := 9) (b := true) rfl rfl (he.get 6 9 (by kernel_rfl) rfl) (op_load rfl (he.keep (.tmp 1) (by kernel_rfl)) (run_load_row (hrow.later hL) Try.underlying42 rfl (by rw [List.size_toArray, List.length_map, HL.out]; exact infoB64)) rfl)
  · intro ac W hL he; refine stepOk_yes (j := 6) (t := 9) (b := true) rfl rfl (he.get 6 9 (by kernel_rfl) rfl) ?_; have e0 : ac.eval (.tmp 10) = (.agg (stC Sha.first 0)) := (he.get 7 10 (by kernel_rfl) rfl); have e1 : ac.eval (.tmp 11) = (.agg (l.map byteV).toArray) := (he.get 8 11 (by kernel_rfl) rfl); exact op_callF (vs := #[.agg (stC Sha.first 0), .agg (l.map byteV).toArray]) rfl (by simp only [List.map_toArray, List.map_cons, List.map_nil, e0, e1]) (enters_of Try.func19 (by kernel_rfl) rfl) ((shaPress_any Sha.first l W HL.out).mono fun e W' ⟨he', hb⟩ => ⟨_, he', hb, rfl⟩)
  · intro ac W hL he; refine stepOk_yes (j := 6) (t := 9) (b := true) rfl rfl (he.get 6 9 (by kernel_rfl) rfl) ?_; exact op_callF (vs := #[]) rfl (by simp) (enters_of Try.func31 (by kernel_rfl) rfl) ((refFirst_any W).mono fun e W' ⟨he', hb⟩ => ⟨_, he', hb ▸ (Later.refl W).alloc _, rfl⟩)
  · exact fun ac W hL he => stepOk_yes (j := 6) (t := 9) (b := true) rfl rfl (he.get 6 9 (by kernel_rfl) rfl) (op_load rfl (he.keep (.tmp 1) (by kernel_rfl)) (run_load_row (hrow.later hL) Try.underlying42 rfl (by rw [List.size_toArray, List.length_map, HL.out]; exact infoB64)) rfl)
  · intro ac W hL he; refine stepOk_yes (j := 6) (t := 9) (b := true) rfl rfl (he.get 6 9 (by kernel_rfl) rfl) ?_; have e0 : ac.eval (.tmp 13) = (.agg (stC Sha.first 0)) := (he.get 10 13 (by kernel_rfl) rfl); have e1 : ac.eval (.tmp 14) = (.agg (l.map byteV).toArray) := (he.get 11 14 (by kernel_rfl) rfl); exact op_callF (vs := #[.agg (stC Sha.first 0), .agg (l.map byteV).toArray]) rfl (by simp only [List.map_toArray, List.map_cons, List.map_nil, e0, e1]) (enters_of Try.func20 (by kernel_rfl) rfl) ((refPress_any Sha.first l W HL.out).mono fun e W' ⟨he', hb⟩ => ⟨_, he', hb, rfl⟩)
  · exact fun ac W hL he => stepOk_yes (j := 6) (t := 9) (b := true) rfl rfl (he.get 6 9 (by kernel_rfl) rfl) (op_binOp rfl (he.get 9 12 (by kernel_rfl) rfl) (he.get 12 15 (by kernel_rfl) rfl) (eqgSt _ _ _ _ _ W) (eqlSt (Sha.blk Sha.first l) W) rfl)
  · exact fun ac W hL he => stepOk_want rfl (op_pick (b := true) rfl (he.get 6 9 (by kernel_rfl) rfl) (he.get 13 16 (by kernel_rfl) rfl))
  · exact fun ac W hL he => stepOk_want rfl (op_move rfl (he.get 14 17 (by kernel_rfl) rfl))
  · intro ac W hL he; refine stepOk_yes (j := 15) (t := 18) (b := true) rfl rfl (he.get 15 18 (by kernel_rfl) rfl) ?_; exact op_callF (vs := #[]) rfl (by simp) (enters_of Try.func9 (by kernel_rfl) rfl) ((works_yes W).mono fun e W' ⟨he', hb⟩ => ⟨_, he', hb, rfl⟩)
  · exact fun ac W hL he => stepOk_want rfl (op_pick (b := true) rfl (he.get 15 18 (by kernel_rfl) rfl) (he.get 16 19 (by kernel_rfl) rfl))
  · exact fun ac W hL he => stepOk_want rfl (op_assign rfl (he.get 17 20 (by kernel_rfl) rfl))
  · intro xs W hL hx
    have he8 : xs 18 = .bool true := hx 18 (by decide)
    have hb9 := hb0.trans (hL.below.mono hb0.size)
    clear hx hL
    simp only [putL, Nat.reduceAdd, Act.put, List.setIfInBounds_toArray, List.set_cons_succ, List.set_cons_zero, he8]
    go_wp2_with fail
    go_ret
    exact ⟨rfl, hb9⟩
end Go.Proofs.Ytfconncnccgenaa
