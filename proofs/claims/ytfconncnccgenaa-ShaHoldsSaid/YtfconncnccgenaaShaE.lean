/- Two hashes held against each other; the document's Twice; the sums of one part. -/
import Derived.Test.YtfconncnccgenaaShaP5
import Derived.Test.YtfconncnccgenaaShaT10
import Derived.Stop.BytesEq
set_option linter.unusedVariables false
set_option linter.unusedSimpArgs false
namespace Go.Proofs.Ytfconncnccgenaa
open Go.RowKit
theorem hC_cells (B : List UInt8) (h : B.length = 32) : hC B = (B.map Extern.Stop.cell).toArray := by
  unfold hC
  simp [Sha.zeros, h]
  intro a _
  rfl
theorem eqlHash (a b : List UInt8) (ha : a.length = 32) (hb : b.length = 32) (w : World) : (binOp .eql 26 (.agg (hC a)) (.agg (hC b))).run Try.prog w = .ok (.bool (a == b)) w := by
  rw [run_eql_struct, hC_cells a ha, hC_cells b hb, run_equalIn_bytes w 9998 26 5 32 Try.underlying26 Try.underlying5 (fun w => by kernel_rfl) a b ha hb]
  simp
theorem neqHash (a b : List UInt8) (ha : a.length = 32) (hb : b.length = 32) (w : World) : (binOp .neq 26 (.agg (hC a)) (.agg (hC b))).run Try.prog w = .ok (.bool (!(a == b))) w := by
  rw [run_neq_struct, hC_cells a ha, hC_cells b hb, run_equalIn_bytes w 9998 26 5 32 Try.underlying26 Try.underlying5 (fun w => by kernel_rfl) a b ha hb]
  simp
theorem eqgHash (b : BinOp) (x y : Operand) (xs ys : Array Value) (w : World) : (eqGuard b 26 x y (.agg xs) (.agg ys)).run Try.prog w = .ok () w := run_eqGuard_agg w b _ x y xs ys (by kernel_rfl)
theorem eqlSame (a : List UInt8) (ha : a.length = 32) (w : World) : (binOp .eql 26 (.agg (hC a)) (.agg (hC a))).run Try.prog w = .ok (.bool true) w := by rw [eqlHash a a ha ha, beq_self_eq_true]
theorem twice_at (A : Option Addr) (n cap : Nat) (l h : List UInt8) (t : TypeId) (w : World) (hr : Rd w A l) (hn : l.length = n) (hc : n ≤ cap) (hm : cap ≤ 9223372036854775807) (hmax : n ≤ 1000000000) (hh : Sha.sum (Sha.sum l) = h) :
    Calls Try.prog 12 #[.slice (some ⟨w.heap.size, 0, none⟩) 1 1] (w.alloc (.cells #[.slice A n cap] t)) fun e w' => e = .returned (.agg (hC h)) ∧ Below (w.heap.size + 1) (w.alloc (.cells #[.slice A n cap] t)) w' := by
  have := shaTwice_any (some ⟨w.heap.size, 0, none⟩) 1 1 [l] (w.alloc (.cells #[.slice A n cap] t)) rfl (by decide) (by simp only [List.flatten_cons, List.flatten_nil, List.append_nil]; omega) (RdsC.one t rfl hr hn hc hm)
  simp only [List.flatten_cons, List.flatten_nil, List.append_nil, hh, World.size_alloc] at this
  exact this
set_option maxRecDepth 100000 in
set_option maxHeartbeats 1000000 in
theorem refTwice_any (A : Option Addr) (n ca : Nat) (l : List UInt8) (w : World) (hn : l.length = n) (hm : n ≤ 100000000) (hr : Rd w A l) :
    Calls Try.prog 13 #[.slice A n ca] w fun e w' => e = .returned (.agg (hC (Sha.sum (Sha.sum l)))) ∧ Below w.heap.size w w' := by
  obtain ⟨h1, hh1⟩ : ∃ y, Sha.sum l = y := ⟨_, rfl⟩
  have hl1 : h1.length = 32 := by rw [← hh1]; exact Sha.sum_len _
  obtain ⟨h2, hh2⟩ : ∃ y, Sha.sum h1 = y := ⟨_, rfl⟩
  have hl2 : h2.length = 32 := by rw [← hh2]; exact Sha.sum_len _
  have hrowA := Row.new w 26 (hC [])
  have hbA := below_new w (.cells (hC []) 26)
  have hcall := refSum_any A n ca l (w.alloc (.cells (hC []) 26)) hn hm (hr.below hbA)
  rw [hh1] at hcall
  rw [hh1, hh2]
  have HH2 := Lib.hid hh2
  clear hh1 hh2 hr
  go_enter Try.func13, Try.ntmps13
  go_upto_region 2 with (first
    | (with_reducible refine wpList_alloc rfl 26 rfl (allocH _) ?_)
    | (go_at_call 11; refine hcall.mono ?_; rintro e w1 ⟨rfl, hb1⟩; have hb1' := hbA.trans (hb1.mono hbA.size); have hrow1 := hrowA.belowAll hb1; obtain ⟨wB, hstB, hrB, hgB⟩ := storeH (a := []) (b := h1) (by simp) (by omega) (Row.new w1 26 (hC [])))
    | (refine wpList_store rfl 26 (.tmp 3) (.tmp 5) rfl (.pointer (some ⟨w1.heap.size, 0, none⟩)) (.agg (hC h1)) rfl rfl hstB ?_)
    | fail)
  obtain ⟨g1, hg1⟩ : ∃ y, y = w1.heap.size := ⟨_, rfl⟩
  rw [← hg1] at hrB hgB ⊢
  have hws := hb1'.size
  have hbB : Below w.heap.size w wB := (hb1'.alloc hb1'.size _).grown hgB (by simp only [World.size_alloc]; omega) (fun j e => by cases e; omega)
  have hrowB : Row wB w.heap.size 26 (hC []) := (hrow1.alloc _).grown hgB (by intro e; injection e with e; have := hrow1.lt; omega)
  have hcall2 := refSum_any (some ⟨g1, 0, none⟩) 32 32 h1 wB hl1 (by decide) (rd_hash hl1 hrB)
  rw [HH2.out] at hcall2
  clear hcall hrowA hbA hb1 hb1' hrow1 hstB hgB hg1
  go_wp2_with (first
    | (refine wpList_slice0 rfl 26 (.tmp 3) rfl (.pointer (some ⟨g1, 0, none⟩)) rfl (sliceHash _) ?_)
    | (go_at_call 11; refine hcall2.mono ?_; rintro e w2 ⟨rfl, hb2⟩; have hb2' := hbB.trans (hb2.mono hbB.size); have hrow2 := hrowB.belowAll hb2; obtain ⟨w9, hst9, hr9, hg9⟩ := storeH (a := []) (b := h2) (by simp) (by omega) hrow2)
    | (refine wpList_store rfl 26 (.tmp 2) (.tmp 7) rfl (.pointer (some ⟨w.heap.size, 0, none⟩)) (.agg (hC h2)) rfl rfl hst9 ?_)
    | fail)
  refine bodyPost_ret (results_cell_row rfl _ _ w.heap.size 26 (hC h2) (0, 0) _ rfl hr9 Try.underlying26 rfl (by rw [hC_size _ (by omega)]; exact infoH)) rfl ⟨rfl, hb2'.grown hg9 hb2'.size (fun j e => by cases e; exact Nat.le_refl _)⟩
theorem Rd.byteZ {w : World} {t : TypeId} {z : Int} (h0 : 0 ≤ z) (h1 : z < 256) : Rd (w.alloc (.cells #[.int .u8 z] t)) (some ⟨w.heap.size, 0, none⟩) [UInt8.ofNat z.toNat] :=
  Rd.byte1 (by rw [UInt8.toNat_ofNat']; omega)
end Go.Proofs.Ytfconncnccgenaa
