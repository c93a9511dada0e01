/- Walks: a writer that is none. -/
import Derived.Test.YtmipaacobioakaaWr36
set_option linter.unusedVariables false
set_option linter.unusedSimpArgs false
namespace Go.Proofs.Ytmipaacobioakaa
open Go.RowKit
/-- The pointer is of no writer. -/
def NoWr (w : World) (pv : Option Addr) : Prop := ∀ W, Later w W → Calls Try.prog 36 #[.pointer pv] W fun e w' => w' = W ∧ e = .returned (.bool true)
theorem NoWr.later {w w' : World} {pv : Option Addr} (h : NoWr w pv) (hL : Later w w') : NoWr w' pv := fun W k => h W (hL.step k)
theorem noWr_nil (w : World) : NoWr w none := fun W _ => wnone_nil W
theorem noWr_void {w : World} {g : Nat} (hr : Row w g 69 #[.slice none 0 0, .bool false]) : NoWr w (some ⟨g, 0, none⟩) := fun W hL => wnone_yes g _ false W (hr.later hL)
theorem wNumber_none (pv : Option Addr) (v : Value) (w : World) (hno : NoWr w pv) : Calls Try.prog 11 #[.pointer pv, v] w fun e w' => w' = w ∧ e = .returned (.int .i64 1) := by
  have hn1 := hno w (Later.refl w)
  go_enter Try.func11, Try.ntmps11
  go_wp2_with (first
    | (go_at_call 36; refine hn1.mono ?_; clear hn1; rintro e w2 ⟨rfl, rfl⟩)
    | fail)
  go_ret
  exact ⟨rfl, rfl⟩
theorem wTruth_none (pv : Option Addr) (v : Value) (w : World) (hno : NoWr w pv) : Calls Try.prog 26 #[.pointer pv, v] w fun e w' => w' = w ∧ e = .returned (.int .i64 1) := by
  have hn1 := hno w (Later.refl w)
  go_enter Try.func26, Try.ntmps26
  go_wp2_with (first
    | (go_at_call 36; refine hn1.mono ?_; clear hn1; rintro e w2 ⟨rfl, rfl⟩)
    | fail)
  go_ret
  exact ⟨rfl, rfl⟩
theorem wHash_none (pv : Option Addr) (v : Value) (w : World) (hno : NoWr w pv) : Calls Try.prog 27 #[.pointer pv, v] w fun e w' => w' = w ∧ e = .returned (.int .i64 1) := by
  have hn1 := hno w (Later.refl w)
  go_enter Try.func27, Try.ntmps27
  go_wp2_with (first
    | (go_at_call 36; refine hn1.mono ?_; clear hn1; rintro e w2 ⟨rfl, rfl⟩)
    | fail)
  go_ret
  exact ⟨rfl, rfl⟩
theorem wText_none (pv : Option Addr) (v : Value) (w : World) (hno : NoWr w pv) : Calls Try.prog 28 #[.pointer pv, v] w fun e w' => w' = w ∧ e = .returned (.int .i64 1) := by
  have hn1 := hno w (Later.refl w)
  go_enter Try.func28, Try.ntmps28
  go_wp2_with (first
    | (go_at_call 36; refine hn1.mono ?_; clear hn1; rintro e w2 ⟨rfl, rfl⟩)
    | fail)
  go_ret
  exact ⟨rfl, rfl⟩
theorem all_none (pv : Option Addr) (w : World) (hno : NoWr w pv) : Calls Try.prog 14 #[.pointer pv] w fun e w' => w' = w ∧ e = .returned (.slice none 0 0) := by
  have hn1 := hno w (Later.refl w)
  go_enter Try.func14, Try.ntmps14
  go_wp2_with (first
    | (go_at_call 36; refine hn1.mono ?_; clear hn1; rintro e w2 ⟨rfl, rfl⟩)
    | fail)
  go_ret
  exact ⟨rfl, rfl⟩
theorem infoAct : (Try.prog.info? 67).map (·.size) = some 5 := by kernel_rfl
theorem loadAct {w : World} {b o : Nat} {x : ActL} {A1 A2 A3 : Option Addr} {c1 c2 c3 : Nat} (hr : w.rangeAt b o (actC x A1 A2 A3 c1 c2 c3)) : (Instr.loadAt 67 (.pointer (some ⟨b, o, none⟩))).run Try.prog w = .ok (.agg (actA x A1 A2 A3 c1 c2 c3)) w :=
  run_loadAt_mid (P := Try.prog) w b o 67 (actC x A1 A2 A3 c1 c2 c3) _ hr Try.underlying67 rfl infoAct
theorem buildB1 (w : World) : (Instr.buildSlice 64 1 #[(0, .bool true)]).run Try.prog w = .ok (.slice (some ⟨w.heap.size, 0, none⟩) 1 1) (w.alloc (.cells #[.bool true] 4)) := by kernel_rfl
theorem buildH1 (w : World) : (Instr.buildSlice 65 1 #[(0, .agg (hC []))]).run Try.prog w = .ok (.slice (some ⟨w.heap.size, 0, none⟩) 1 1) (w.alloc (.cells (hC []) 53)) := by kernel_rfl
end Go.Proofs.Ytmipaacobioakaa
