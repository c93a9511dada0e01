/- Walks, secrets: Put of what fits, and of another number than the next one. -/
import Derived.Test.YthabgfghogdkcaaDoorSc6
set_option linter.unusedVariables false
set_option linter.unusedSimpArgs false
namespace Go.Proofs.YthabgfghogdkcaaDoor
open Go.RowKit
/-- What a Put's head lays. -/
structure PutHead (w w1 : World) (g q : Nat) (s : List UInt8) : Prop where
  q3 : Row w1 q 31 #[.pointer (some ⟨g, 0, none⟩)]
  q5 : Row w1 (q + 1) 23 (hC s)
  q6 : Row w1 (q + 2) 24 #[.int .i64 0]
  below : Below w.heap.size w w1
  at_ : w.heap.size ≤ q
theorem putHead_of (w : World) (g : Nat) (s : List UInt8) : PutHead w (((w.alloc (.cells #[.pointer (some ⟨g, 0, none⟩)] 31)).alloc (.cells (hC s) 23)).alloc (.cells #[.int .i64 0] 24)) g w.heap.size s := by
  have k5 := (Row.new (w.alloc (.cells #[.pointer (some ⟨g, 0, none⟩)] 31)) 23 (hC s)).alloc (.cells #[.int .i64 0] 24)
  have k6 := Row.new ((w.alloc (.cells #[.pointer (some ⟨g, 0, none⟩)] 31)).alloc (.cells (hC s) 23)) 24 #[.int .i64 0]
  simp only [World.size_alloc] at k5 k6
  exact ⟨((Row.new w 31 #[.pointer (some ⟨g, 0, none⟩)]).alloc _).alloc _, k5, k6, (below_new2 w _ _).alloc (by simp only [World.size_alloc]; omega) _, Nat.le_refl _⟩
set_option maxHeartbeats 4000000 in
set_option maxRecDepth 100000 in
theorem put_next (g : Nat) (n m : Nat) (ix : Nat → Nat) (sc : Nat → List UInt8) (s : List UInt8) (w : World) (hk : IsKeep w g n ix sc) (hs : s.length = 32) (hm : m ≤ 2147483647) (hne : m ≠ n) :
    Calls Tryd.prog 13 #[.pointer (some ⟨g, 0, none⟩), .int .i64 (m : Int), .agg (hC s)] w fun e w' => e = .returned (.int .i64 160) ∧ Below w.heap.size w w' := by
  have hh := putHead_of w g s
  have hbx := boxH s hs
  have hrow := hk.row
  have hin := inB_yes (n := (m : Int)) (most := 2147483647) (by omega) (by omega)
  have hneI : ((m : Int) != (n : Int)) = true := by simp; omega
  have HS := Lib.hid hs
  clear hs hk
  go_enter_defers Tryd.func13, Tryd.ntmps13
  go_upto_region 1 with (first
    | (with_reducible refine wpList_box rfl 23 (.tmp 2) rfl (.agg (hC s)) rfl (hbx _) ?_)
    | fail)
  obtain ⟨q, hq⟩ : ∃ q, q = w.heap.size := ⟨_, rfl⟩
  rw [← hq] at hh
  try simp only [World.size_alloc]
  rw [← hq]
  have hgl := hrow.lt
  have hrow := hrow.belowAll hh.below
  clear hq hbx
  generalize ((w.alloc (.cells #[.pointer (some ⟨g, 0, none⟩)] 31)).alloc (.cells (hC s) 23)).alloc (.cells #[.int .i64 0] 24) = w1 at *
  obtain ⟨k3, k5, k6, hb, hwq⟩ := hh
  have c3 : w1.cell? ⟨q, 0, none⟩ = some (.pointer (some ⟨g, 0, none⟩)) := (k3.cell 0).trans rfl
  have c6 : w1.cell? ⟨q + 2, 0, none⟩ = some (.int .i64 0) := (k6.cell 0).trans rfl
  have f6 : w1.frozen? ⟨q + 2, 0, none⟩ = false := k6.frozen 0
  have cg : w1.cell? ⟨g, 0, none⟩ = some (.int .i64 n) := (hrow.cell 0).trans (kC_n _ _ _ _)
  go_wp2_with (first
    | (go_at_call 27; refine (knone_no g n ix sc _ hrow).mono ?_; rintro e w2 ⟨rfl, rfl⟩)
    | (go_at_call 24; refine (in64_any _ _ _).mono ?_; rintro e w2 ⟨rfl, rfl⟩)
    | fail)
  have k6' := k6.set 0 (.int .i64 160)
  have hcv : (w2.setCell ⟨q + 2, 0, none⟩ (.int .i64 160)).cell? ⟨q + 2, 0, none⟩ = some (.int .i64 160) := (k6'.cell 0).trans rfl
  exact ⟨_, by simp [results, Tryd.results13, go_sem, hcv], rfl, hb.setCell (by show w.heap.size ≤ q + 2; omega) _⟩
end Go.Proofs.YthabgfghogdkcaaDoor
