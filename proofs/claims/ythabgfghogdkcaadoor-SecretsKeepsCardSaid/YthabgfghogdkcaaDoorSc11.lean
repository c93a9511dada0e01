/- Walks, secrets: works. -/
import Derived.Test.YthabgfghogdkcaaDoorSc10
import Derived.Test.YthabgfghogdkcaaDoorScO7
set_option linter.unusedVariables false
set_option linter.unusedSimpArgs false
namespace Go.Proofs.YthabgfghogdkcaaDoor
open Go.RowKit
def wX : List UInt8 := [1, 2] ++ List.replicate 30 0
theorem wX_len : wX.length = 32 := rfl
theorem buildX (w : World) : (Instr.build 23 #[(0, .int .u8 1), (1, .int .u8 2)]).run Tryd.prog w = .ok (.agg (hC wX)) w := by kernel_rfl
theorem Sec.down0 (h : List UInt8) (ix : Nat) : Sec.down h 0 ix = h := rfl
theorem newHx (W : World) (x : List UInt8) (hx : x.length ≤ 32) : ∃ w', (Instr.storeAt 23 (.pointer (some ⟨W.heap.size, 0, none⟩)) (.agg (hC x))).run Tryd.prog (W.alloc (.cells (hC []) 23)) = .ok () w' ∧ Row w' W.heap.size 23 (hC x) ∧ Below W.heap.size W w' := by
  obtain ⟨w', h1, h2, h3⟩ := storeH (a := []) (b := x) (by decide) hx (Row.new W 23 (hC []))
  exact ⟨w', h1, h2, (below_new W _).grown h3 (by simp only [World.size_alloc]; omega) (fun j e => by cases e; exact Nat.le_refl _)⟩
def ix0 : Nat → Nat := fun _ => 0
def sc0 : Nat → List UInt8 := fun _ => Sha.zeros 32
theorem kC_new (n : Int) : kC n (fun _ => 0) (fun _ => []) true = kC n ix0 sc0 true := kC_congr (fun _ _ => rfl) (fun _ _ => hC_zeros.symm)
theorem isKeep_new {w : World} {g : Nat} {n : Int} (h : Row w g 60 (kC n (fun _ => 0) (fun _ => []) true)) : IsKeep w g n ix0 sc0 := ⟨by rw [← kC_new]; exact h, fun _ => by simp [sc0, Sha.zeros], fun _ => by simp [ix0]⟩
def ix1 : Nat → Nat := updF ix0 0 2147483647
def sc1 : Nat → List UInt8 := updF sc0 0 wX
theorem k_down5 : Sec.downR wX 5 0 = (wX, 0) := by
  have : Sec.downR wX 5 0 = (Sec.down wX 5 0, 0) := rfl
  rw [this, Sec.down_same]
theorem k_down32 : Sec.downR wX 32 0 = ([], 2) := rfl
theorem k_secret : Sec.secR wX 2147483647 = (wX, 0) := by
  have : Sec.secR wX 2147483647 = (Sec.down wX 31 0, 0) := rfl
  rw [this, Sec.down_same]
theorem k_place : Sec.place (2147483647 - 0) = 0 := by decide
theorem k_hit : Sec.hit ix1 (2147483647 - 0) 0 = true := by decide
theorem k_read0 : Sec.readOk [0] = true ∧ Sec.readN [0] = 0 ∧ Sec.readL [0] = [] := by decide +kernel
theorem k_readn : Sec.readOk [] = false := by decide +kernel
theorem k_read1 : Sec.readOk [1] = false := by decide +kernel
theorem k_width : Sec.width 0 = 0 := by decide
theorem readZero (W : World) : Calls Tryd.prog 18 #[.slice (some ⟨W.heap.size, 0, none⟩) 1 1] (W.alloc (.cells #[.int .u8 0] 5)) fun e w' => ∃ g, e = .returned (.tuple #[.pointer (some ⟨g, 0, none⟩), .int .i64 0]) ∧ Row w' g 60 (kC 0 (fun _ => 0) (fun _ => []) true) ∧ Below W.heap.size W w' := by
  have hrd : Rd (W.alloc (.cells #[.int .u8 0] 5)) (some ⟨W.heap.size, 0, none⟩) [0] := Rd.lit W 5 [0]
  have hb0 := below_new W (.cells #[.int .u8 0] 5)
  refine (sread_any (some ⟨W.heap.size, 0, none⟩) 1 1 [0] _ rfl (by decide) hrd).mono ?_
  rintro e w' ⟨hb, ⟨hno, _⟩ | ⟨_, g, hg, he, hk⟩⟩
  · rw [k_read0.1] at hno; cases hno
  · have hr := hk.row
    rw [k_read0.2.1, k_read0.2.2, k_width, ← kC_zero] at hr
    exact ⟨g, he, hr, hb0.trans (hb.mono hb0.size)⟩
theorem readNone (W : World) : Calls Tryd.prog 18 #[.slice none 0 0] W fun e w' => e = .returned (.tuple #[.pointer none, .int .i64 162]) ∧ Below W.heap.size W w' := by
  refine (sread_any none 0 0 [] W rfl (by decide) (Rd.nil _ _)).mono ?_
  rintro e w' ⟨hb, ⟨_, he⟩ | ⟨hy, _⟩⟩
  · exact ⟨he, hb⟩
  · rw [k_readn] at hy; cases hy
theorem readOne (W : World) : Calls Tryd.prog 18 #[.slice (some ⟨W.heap.size, 0, none⟩) 1 1] (W.alloc (.cells #[.int .u8 1] 5)) fun e w' => e = .returned (.tuple #[.pointer none, .int .i64 162]) ∧ Below W.heap.size W w' := by
  have hrd : Rd (W.alloc (.cells #[.int .u8 1] 5)) (some ⟨W.heap.size, 0, none⟩) [1] := Rd.lit W 5 [1]
  have hb0 := below_new W (.cells #[.int .u8 1] 5)
  refine (sread_any (some ⟨W.heap.size, 0, none⟩) 1 1 [1] _ rfl (by decide) hrd).mono ?_
  rintro e w' ⟨hb, ⟨_, he⟩ | ⟨hy, _⟩⟩
  · exact ⟨he, hb0.trans (hb.mono hb0.size)⟩
  · rw [k_read1] at hy; cases hy
theorem getZero (g : Nat) (W : World) (hk : IsKeep W g ((0 : Nat) : Int) ix0 sc0) : Calls Tryd.prog 14 #[.pointer (some ⟨g, 0, none⟩), .int .i64 0] W fun r w' => r = .returned (.tuple #[.agg (hC []), .int .i64 5]) ∧ Below W.heap.size W w' :=
  get_no g 0 0 ix0 sc0 5 W hk.row (.inr ⟨rfl, by decide, rfl⟩)
theorem getFirst (g : Nat) (W : World) (hT : Tabs W) (hk : IsKeep W g ((0 + 1 : Nat) : Int) ix1 sc1) : Calls Tryd.prog 14 #[.pointer (some ⟨g, 0, none⟩), .int .i64 0] W fun r w' => r = .returned (.tuple #[.agg (hC wX), .int .i64 0]) ∧ Below W.heap.size W w' :=
  get_ok g (0 + 1) 0 0 ix1 sc1 W hT hk (by decide) (by decide) (by decide) k_hit (fun k hk => absurd hk (by omega))
theorem putSecond (g : Nat) (W : World) (hk : IsKeep W g ((0 : Nat) : Int) ix0 sc0) : Calls Tryd.prog 13 #[.pointer (some ⟨g, 0, none⟩), .int .i64 1, .agg (hC wX)] W fun e w' => e = .returned (.int .i64 160) ∧ Below W.heap.size W w' :=
  put_next g 0 1 ix0 sc0 wX W hk wX_len (by decide) (by decide)
theorem putFirst (g : Nat) (W : World) (hT : Tabs W) (hk : IsKeep W g ((0 : Nat) : Int) ix0 sc0) : Calls Tryd.prog 13 #[.pointer (some ⟨g, 0, none⟩), .int .i64 0, .agg (hC wX)] W fun e w' => e = .returned (.int .i64 0) ∧ IsKeep w' g ((0 + 1 : Nat) : Int) ix1 sc1 ∧ Same (fun k => k < W.heap.size ∧ k ≠ g) W w' :=
  put_ok g 0 0 ix0 sc0 wX W hT hk wX_len (by decide) k_place (by decide) rfl
end Go.Proofs.YthabgfghogdkcaaDoor
