/- Walks: a state as a hash, and what comes behind bytes, by the document. -/
import Derived.Test.YtfconncnccgenaaShaP2
import Derived.Test.YtfconncnccgenaaAppZ2
import Derived.Test.YtfconncnccgenaaShaR5
set_option linter.unusedVariables false
set_option linter.unusedSimpArgs false
namespace Go.Proofs.Ytfconncnccgenaa
open Go.RowKit
theorem told4_list (n : Nat) : Sha.told n 4 = [UInt8.ofNat (n / 16777216), UInt8.ofNat (n / 65536), UInt8.ofNat (n / 256), UInt8.ofNat n] := by
  simp [Sha.told, List.range_succ]
set_option maxHeartbeats 1000000 in
set_option maxRecDepth 100000 in
theorem refTold_any (x : Sha.St) (w : World) :
    Calls Try.prog 21 #[.agg (stC x 0)] w fun e w' => e = .returned (.agg (hC (Sha.toldSt x))) ∧ Below w.heap.size w w' := by
  have hb1 := run_box_row (P := Try.prog) w 41 (stC x 0) (by rw [stC_size]; exact info8)
  go_enter Try.func21, Try.ntmps21
  go_wp2_with (first
    | (with_reducible refine wpList_box rfl 41 (.tmp 0) rfl (.agg (stC x 0)) rfl hb1 ?_)
    | (with_reducible refine wpList_alloc rfl 26 rfl (allocH _) ?_))
  obtain ⟨g, hg⟩ : ∃ y, y = w.heap.size := ⟨_, rfl⟩
  rw [← hg]
  have hr1 : Row (((w.alloc (.cells (stC x 0) 41)).alloc (.cells (hC []) 26)).alloc (.cells (hC []) 26)) g 41 (stC x 0) := ((Row.newAt hg.symm).alloc _).alloc _
  have hr2 : Row (((w.alloc (.cells (stC x 0) 41)).alloc (.cells (hC []) 26)).alloc (.cells (hC []) 26)) (g + 1) 26 (hC []) := (Row.newAt (by simp only [World.size_alloc]; omega)).alloc _
  have hr3 : Row (((w.alloc (.cells (stC x 0) 41)).alloc (.cells (hC []) 26)).alloc (.cells (hC []) 26)) (g + 1 + 1) 26 (hC (preC x 0)) := Row.newAt (by simp only [World.size_alloc]; omega)
  have hbl : Below w.heap.size w (((w.alloc (.cells (stC x 0) 41)).alloc (.cells (hC []) 26)).alloc (.cells (hC []) 26)) := (((Later.refl w).alloc _).alloc _).alloc _
  have HG := Lib.hid hg
  clear hg hb1
  generalize ((w.alloc (.cells (stC x 0) 41)).alloc (.cells (hC []) 26)).alloc (.cells (hC []) 26) = w1 at *
  go_loopw [4] (fun t wr => ∃ k : Nat, k ≤ 8 ∧ t = .int .i64 k ∧ Row wr g 41 (stC x 0) ∧ Row wr (g + 1) 26 (hC []) ∧ Row wr (g + 1 + 1) 26 (hC (preC x k)) ∧ Below w.heap.size w wr) (fun t _ => 8 - (intOf t).toNat)
  case atStart => exact ⟨0, by omega, rfl, hr1, hr2, hr3, hbl⟩
  case round =>
    obtain ⟨k, hk, rfl, h1, h2, h3, hb⟩ := hrel
    clear hr1 hr2 hr3 hbl
    by_cases hlt : k < 8
    · have hc := preC_succ x k hlt
      have hcx : wr.cell? ⟨g, k, none⟩ = some (.int .u32 ((x.get k).toNat : Int)) := (h1.cell _).trans (by rw [stC_get x 0 k hlt, show (k + 0) % 8 = k from by omega])
      have hpl := preC_len x k (by omega)
      have hsz := hC_size (preC x k) (by omega)
      have hset := hC_copy (preC x k) (Sha.told (x.get k).toNat 4) (by rw [Sha.told_len]; omega)
      rw [← hc, hpl, told4_list] at hset
      generalize x.get k = xk at *
      obtain ⟨v0, c0⟩ := h3.has (4 * k) (by omega)
      obtain ⟨v1, c1⟩ := h3.has (4 * k + 1) (by omega)
      obtain ⟨v2, c2⟩ := h3.has (4 * k + 2) (by omega)
      obtain ⟨v3, c3⟩ := h3.has (4 * k + 3) (by omega)
      have f0 := h3.frozen (4 * k)
      have f1 := h3.frozen (4 * k + 1)
      have f2 := h3.frozen (4 * k + 2)
      have f3 := h3.frozen (4 * k + 3)
      have HSET := Lib.hid hset
      clear hset hc hpl hsz
      have n0 : (4 * (k : Int)).toNat = 4 * k := by omega
      have n1 : (4 * (k : Int) + 1).toNat = 4 * k + 1 := by omega
      have n2 : (4 * (k : Int) + 2).toNat = 4 * k + 2 := by omega
      have n3 : (4 * (k : Int) + 3).toNat = 4 * k + 3 := by omega
      have u0 : 4 * (k : Int) < 32 := by omega
      have u1 : 4 * (k : Int) + 1 < 32 := by omega
      have u2 : 4 * (k : Int) + 2 < 32 := by omega
      have u3 : 4 * (k : Int) + 3 < 32 := by omega
      have hxl := xk.isLt
      go_wp2
      go_roundw
      case rel =>
        have y0 : (xk.toNat : Int) / 16777216 = ((UInt8.ofNat (xk.toNat / 16777216)).toNat : Int) := by rw [UInt8.toNat_ofNat']; omega
        have y1 : (xk.toNat : Int) / 65536 % 256 = ((UInt8.ofNat (xk.toNat / 65536)).toNat : Int) := by rw [UInt8.toNat_ofNat']; omega
        have y2 : (xk.toNat : Int) / 256 % 256 = ((UInt8.ofNat (xk.toNat / 256)).toNat : Int) := by rw [UInt8.toNat_ofNat']; omega
        have y3 : (xk.toNat : Int) % 256 = ((UInt8.ofNat xk.toNat).toNat : Int) := by rw [UInt8.toNat_ofNat']; omega
        rw [y0, y1, y2, y3]
        have hb0 : w.heap.size ≤ g + 1 + 1 := by have := HG.out; omega
        refine ⟨k + 1, by omega, by go_num, (((h1.far (by simp; omega) _).far (by simp; omega) _).far (by simp; omega) _).far (by simp; omega) _, (((h2.far (by simp) _).far (by simp) _).far (by simp) _).far (by simp) _, ?_, ((((hb.setCell hb0 _).setCell hb0 _).setCell hb0 _).setCell hb0 _)⟩
        rw [← HSET.out]
        exact (((h3.set _ _).set _ _).set _ _).set _ _
      case measure => simp [intOf]; omega
    · obtain rfl : k = 8 := by omega
      have hs32 := hC_size (Sha.toldSt x) (by rw [Sha.toldSt_len]; omega)
      rw [preC_all] at h3
      have hld := run_load_row (P := Try.prog) (T := 26) h3 Try.underlying26 rfl (by rw [hs32]; exact infoH)
      obtain ⟨W', hst, hr', hg'⟩ := run_put_row (P := Try.prog) (T := 26) h2 (vs := hC (Sha.toldSt x)) (by rw [hs32]; rfl) (by rw [hs32]; exact infoH) (hC_one _)
      have HS := Lib.hid hs32
      clear hs32
      go_wp2_with (first
        | (refine wpList_load rfl 26 (.tmp 3) rfl (.pointer (some ⟨g + 1 + 1, 0, none⟩)) rfl hld ?_)
        | (refine wpList_store rfl 26 (.tmp 2) (.tmp 46) rfl (.pointer (some ⟨g + 1, 0, none⟩)) (.agg (hC (Sha.toldSt x))) rfl rfl hst ?_))
      refine bodyPost_ret (results_cell_row rfl _ _ (g + 1) 26 (hC (Sha.toldSt x)) (0, 0) _ rfl hr' Try.underlying26 rfl (by rw [HS.out]; exact infoH)) rfl ⟨rfl, hb.grown hg' hb.size (fun j e => by cases e; have := HG.out; omega)⟩
end Go.Proofs.Ytfconncnccgenaa
