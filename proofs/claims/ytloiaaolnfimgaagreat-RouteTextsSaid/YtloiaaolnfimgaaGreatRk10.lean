/- Walks, route: works. -/
import Derived.Test.YtloiaaolnfimgaaGreatRk9
import Derived.Test.YtloiaaolnfimgaaGreatRk6
set_option linter.unusedVariables false
set_option linter.unusedSimpArgs false
namespace Go.Proofs.YtloiaaolnfimgaaGreat
open Go.RowKit Rt
def hash1 (b : UInt8) : List UInt8 := b :: Sha.zeros 31
theorem hash1_len (b : UInt8) : (hash1 b).length = 32 := by simp [hash1, Sha.zeros]
def hopW : Hop := ⟨zh, hash1 1, 1, 1⟩
def edgeW (b : UInt8) : Rt.Edge := ⟨zh, hash1 b, 1, 0, 6⟩
theorem hopW_wf : hopW.wf := ⟨zh_len, hash1_len _⟩
theorem edgeW_wf (b : UInt8) : (edgeW b).wf := ⟨zh_len, hash1_len _⟩
theorem bHash1 (w : World) : (Instr.build 25 #[(0, .int .u8 1)]).run Tryz.prog w = .ok (.agg (hC (hash1 1))) w := by kernel_rfl
theorem bHash2 (w : World) : (Instr.build 25 #[(0, .int .u8 2)]).run Tryz.prog w = .ok (.agg (hC (hash1 2))) w := by kernel_rfl
theorem bHopW (w : World) : (Instr.build 27 #[(1, .agg (hC (hash1 1))), (2, .int .i64 1), (3, .int .i64 1)]).run Tryz.prog w = .ok (.agg (hopC hopW)) w := by kernel_rfl
theorem bHopsW (w : World) : (Instr.buildSlice 22 1 #[(0, .agg (hopC hopW))]).run Tryz.prog w = .ok (.slice (some ⟨w.heap.size, 0, none⟩) 1 1) (w.alloc (.cells (hopC hopW) 27)) := by kernel_rfl
theorem bFeeW (w : World) : (Instr.build 42 #[(0, .int .i64 1)]).run Tryz.prog w = .ok (.agg #[.int .i64 1, .int .i64 0]) w := by kernel_rfl
theorem bEdge1 (w : World) : (Instr.build 44 #[(2, .agg #[.int .i64 1, .int .i64 0]), (3, .int .i64 6), (1, .agg (hC (hash1 1)))]).run Tryz.prog w = .ok (.agg (edgeC (edgeW 1))) w := by kernel_rfl
theorem bEdge2 (w : World) : (Instr.build 44 #[(2, .agg #[.int .i64 1, .int .i64 0]), (3, .int .i64 6), (1, .agg (hC (hash1 2)))]).run Tryz.prog w = .ok (.agg (edgeC (edgeW 2))) w := by kernel_rfl
theorem bEdges (w : World) : (Instr.buildSlice 40 2 #[(0, .agg (edgeC (edgeW 1))), (1, .agg (edgeC (edgeW 2)))]).run Tryz.prog w = .ok (.slice (some ⟨w.heap.size, 0, none⟩) 2 2) (w.alloc (.cells ([edgeW 1, edgeW 2].map edgeL).flatten.toArray 44)) := by kernel_rfl
theorem bInvW (w : World) : (Instr.build 51 #[(3, .int .i64 1)]).run Tryz.prog w = .ok (.agg (hopC ⟨zh, zh, 0, 1⟩)) w := by kernel_rfl
def firstW : Hop := ⟨zh, hash1 1, 101, 56⟩
def stepsW : List Hop := [⟨zh, hash1 2, 100, 50⟩, ⟨zh, zh, 100, 50⟩]
theorem planW : plan 100 50 [edgeW 1, edgeW 2] = (firstW, stepsW, 0) := by kernel_rfl
theorem parseW : openE (unhex (([116, 97, 108, 108, 121, 48, 48] : List UInt8).drop 5)) ≠ 0 := by decide +kernel
theorem hasW : okPlan 100 50 [edgeW 1, edgeW 2] = true := by kernel_rfl
theorem expW : expAt 50 [edgeW 1, edgeW 2] 0 ≤ 2147483647 := by decide +kernel
theorem nextW : (hopW.next == zh) = false := by decide +kernel
theorem paidW : paid hopW.amt hopW.exp = true := by kernel_rfl
theorem plan_two (A : Option Addr) (c : Nat) (W : World) (h : Recs 67 W A ([edgeW 1, edgeW 2].map edgeL)) (hc : 2 ≤ c) : Calls Tryz.prog 14 #[.int .i64 100, .int .i64 50, .slice A 2 c] W fun e w' => (∃ B c', e = .returned (.tuple #[.agg (hopC firstW), .slice B 2 c', .int .i64 0]) ∧ Recs 66 w' B (stepsW.map hopL)) ∧ Below W.heap.size W w' := by
  have h1 := callsIn_wide.1 (plan_main 100 50 A 2 c [edgeW 1, edgeW 2] W (fun e he => by simp at he; rcases he with rfl | rfl <;> exact edgeW_wf _) rfl (by decide) hc h (fun _ _ => expW))
  rw [planW] at h1
  refine h1.mono ?_
  rintro e w' ⟨⟨v, he, B, c', hv, hr⟩, hb⟩
  exact ⟨⟨B, c', by rw [he, hv]; rfl, hr⟩, hb⟩
theorem peel_nil (W : World) : Calls Tryz.prog 12 #[.agg (hC zh), .string ⟨#[]⟩] W fun e w' => e = .returned (.tuple #[.agg (hopC noHop), .string ⟨#[]⟩, .int .i64 350]) ∧ Below W.heap.size W w' := peel_short zh zh_len ⟨#[]⟩ (.inl (by decide)) W
theorem parse_00 (W : World) : Calls Tryz.prog 18 #[.string ⟨#[116, 97, 108, 108, 121, 48, 48]⟩] W fun e w' => e = .returned (.tuple #[.agg (hopC noHop), .int .i64 351]) ∧ Below W.heap.size W w' := parse_bad [116, 97, 108, 108, 121, 48, 48] W (fun _ _ _ => parseW)
theorem text_0 (W : World) : Calls Tryz.prog 16 #[.agg (hopC ⟨zh, zh, 0, 1⟩)] W fun e w' => e = .returned (.tuple #[.string ⟨#[]⟩, .int .i64 2]) ∧ Later W w' := text_no ⟨zh, zh, 0, 1⟩ ⟨zh_len, zh_len⟩ (by decide) W
theorem wrap_w (g : Nat) (W : World) (hr : Row W g 27 (hopC hopW)) : Calls Tryz.prog 9 #[.slice (some ⟨g, 0, none⟩) 1 1] W fun e w' => e = .returned (.tuple #[.string ⟨#[]⟩, .int .i64 2]) ∧ Later W w' := wrap_one hopW hopW_wf paidW nextW g W hr
def zL : Array Value := #[Value.int .u8 0, Value.int .u8 0, Value.int .u8 0, Value.int .u8 0, Value.int .u8 0, Value.int .u8 0, Value.int .u8 0, Value.int .u8 0, Value.int .u8 0, Value.int .u8 0, Value.int .u8 0, Value.int .u8 0, Value.int .u8 0, Value.int .u8 0, Value.int .u8 0, Value.int .u8 0, Value.int .u8 0, Value.int .u8 0, Value.int .u8 0, Value.int .u8 0, Value.int .u8 0, Value.int .u8 0, Value.int .u8 0, Value.int .u8 0, Value.int .u8 0, Value.int .u8 0, Value.int .u8 0, Value.int .u8 0, Value.int .u8 0, Value.int .u8 0, Value.int .u8 0, Value.int .u8 0]
theorem zL_eq : hC zh = zL := by kernel_rfl
/-- What works makes and is told, with the values left unspoken. -/
structure WP (H1 H2 Z NH HW E1 E2 EE IV FW : Array Value) (S : List (List Value)) : Prop where
  h1 : ∀ w : World, (Instr.build 25 #[(0, .int .u8 1)]).run Tryz.prog w = .ok (.agg H1) w
  h2 : ∀ w : World, (Instr.build 25 #[(0, .int .u8 2)]).run Tryz.prog w = .ok (.agg H2) w
  z : Z = zL
  hop : ∀ w : World, (Instr.build 27 #[(1, .agg H1), (2, .int .i64 1), (3, .int .i64 1)]).run Tryz.prog w = .ok (.agg HW) w
  hops : ∀ w : World, (Instr.buildSlice 22 1 #[(0, .agg HW)]).run Tryz.prog w = .ok (.slice (some ⟨w.heap.size, 0, none⟩) 1 1) (w.alloc (.cells HW 27))
  fee : ∀ w : World, (Instr.build 42 #[(0, .int .i64 1)]).run Tryz.prog w = .ok (.agg #[.int .i64 1, .int .i64 0]) w
  e1 : ∀ w : World, (Instr.build 44 #[(2, .agg #[.int .i64 1, .int .i64 0]), (3, .int .i64 6), (1, .agg H1)]).run Tryz.prog w = .ok (.agg E1) w
  e2 : ∀ w : World, (Instr.build 44 #[(2, .agg #[.int .i64 1, .int .i64 0]), (3, .int .i64 6), (1, .agg H2)]).run Tryz.prog w = .ok (.agg E2) w
  es : ∀ w : World, (Instr.buildSlice 40 2 #[(0, .agg E1), (1, .agg E2)]).run Tryz.prog w = .ok (.slice (some ⟨w.heap.size, 0, none⟩) 2 2) (w.alloc (.cells EE 44))
  inv : ∀ w : World, (Instr.build 51 #[(3, .int .i64 1)]).run Tryz.prog w = .ok (.agg IV) w
  wrap : ∀ w : World, Calls Tryz.prog 9 #[.slice (some ⟨w.heap.size, 0, none⟩) 1 1] (w.alloc (.cells HW 27)) fun e w' => e = .returned (.tuple #[.string ⟨#[]⟩, .int .i64 2]) ∧ Later (w.alloc (.cells HW 27)) w'
  peel : ∀ w : World, Calls Tryz.prog 12 #[.agg #[Value.int .u8 0, Value.int .u8 0, Value.int .u8 0, Value.int .u8 0, Value.int .u8 0, Value.int .u8 0, Value.int .u8 0, Value.int .u8 0, Value.int .u8 0, Value.int .u8 0, Value.int .u8 0, Value.int .u8 0, Value.int .u8 0, Value.int .u8 0, Value.int .u8 0, Value.int .u8 0, Value.int .u8 0, Value.int .u8 0, Value.int .u8 0, Value.int .u8 0, Value.int .u8 0, Value.int .u8 0, Value.int .u8 0, Value.int .u8 0, Value.int .u8 0, Value.int .u8 0, Value.int .u8 0, Value.int .u8 0, Value.int .u8 0, Value.int .u8 0, Value.int .u8 0, Value.int .u8 0], .string ⟨#[]⟩] w fun e w' => e = .returned (.tuple #[.agg NH, .string ⟨#[]⟩, .int .i64 350]) ∧ Below w.heap.size w w'
  plan : ∀ w : World, Calls Tryz.prog 14 #[.int .i64 100, .int .i64 50, .slice (some ⟨w.heap.size, 0, none⟩) 2 2] (w.alloc (.cells EE 44)) fun e w' => (∃ B c', e = .returned (.tuple #[.agg FW, .slice B 2 c', .int .i64 0]) ∧ Recs 66 w' B S) ∧ Below (w.heap.size + 1) (w.alloc (.cells EE 44)) w'
  parse : ∀ w : World, Calls Tryz.prog 18 #[.string ⟨#[116, 97, 108, 108, 121, 48, 48]⟩] w fun e w' => e = .returned (.tuple #[.agg NH, .int .i64 351]) ∧ Below w.heap.size w w'
  text : ∀ w : World, Calls Tryz.prog 16 #[.agg IV] w fun e w' => e = .returned (.tuple #[.string ⟨#[]⟩, .int .i64 2]) ∧ Later w w'
  aHop : ∀ w : World, (Instr.alloc 27 true (.tuple #[])).run Tryz.prog w = .ok (.pointer (some ⟨w.heap.size, 0, none⟩)) (w.alloc (.cells NH 27))
  aInv : ∀ w : World, (Instr.alloc 51 true (.tuple #[])).run Tryz.prog w = .ok (.pointer (some ⟨w.heap.size, 0, none⟩)) (w.alloc (.cells NH 51))
  nHop : ∀ w : World, ∃ w', (Instr.storeAt 27 (.pointer (some ⟨w.heap.size, 0, none⟩)) (.agg NH)).run Tryz.prog (w.alloc (.cells NH 27)) = .ok () w' ∧ Later w w'
  nFst : ∀ w : World, ∃ w', (Instr.storeAt 27 (.pointer (some ⟨w.heap.size, 0, none⟩)) (.agg FW)).run Tryz.prog (w.alloc (.cells NH 27)) = .ok () w' ∧ Row w' w.heap.size 27 FW ∧ Later w w'
  nInv : ∀ w : World, ∃ w', (Instr.storeAt 51 (.pointer (some ⟨w.heap.size, 0, none⟩)) (.agg NH)).run Tryz.prog (w.alloc (.cells NH 51)) = .ok () w' ∧ Later w w'
  fw : FW[64]? = some (.int .i64 101) ∧ FW[65]? = some (.int .i64 56)
  s : S.length = 2 ∧ ∀ l ∈ S, l[64]? = some (.int .i64 100) ∧ l[65]? = some (.int .i64 50)
theorem newInv (w : World) {h : Hop} (hw : h.wf) : ∃ w', (Instr.storeAt 51 (.pointer (some ⟨w.heap.size, 0, none⟩)) (.agg (hopC h))).run Tryz.prog (w.alloc (.cells (hopC noHop) 51)) = .ok () w' ∧ Row w' w.heap.size 51 (hopC h) ∧ Later w w' := by
  obtain ⟨w', h1, h2, h3⟩ := storeInv noHop_wf hw (Row.new w 51 (hopC noHop))
  exact ⟨w', h1, h2, Below.grown (below_new w _) h3 (by simp) (fun j e => by cases e; exact Nat.le_refl _)⟩
theorem firstW_wf : firstW.wf := ⟨zh_len, hash1_len _⟩
theorem wp_all : ∃ H1 H2 Z NH HW E1 E2 EE IV FW S, WP H1 H2 Z NH HW E1 E2 EE IV FW S :=
  ⟨hC (hash1 1), hC (hash1 2), hC zh, hopC noHop, hopC hopW, edgeC (edgeW 1), edgeC (edgeW 2), ([edgeW 1, edgeW 2].map edgeL).flatten.toArray, hopC ⟨zh, zh, 0, 1⟩, hopC firstW, stepsW.map hopL,
    ⟨bHash1, bHash2, zL_eq, bHopW, bHopsW, bFeeW, bEdge1, bEdge2, bEdges, bInvW, fun w => wrap_w _ _ (Row.new w _ _), fun w => by have h := peel_nil w; rw [zL_eq] at h; exact h,
      fun w => by
        have h := plan_two (some ⟨w.heap.size, 0, none⟩) 2 (w.alloc (.cells ([edgeW 1, edgeW 2].map edgeL).flatten.toArray 44)) (Recs.row (Row.new w _ _) (fun l hl => by obtain ⟨e, he, rfl⟩ := List.mem_map.1 hl; exact edgeL_len (by simp at he; rcases he with rfl | rfl <;> exact edgeW_wf _)) (fun j v hv => by rw [List.getElem?_toArray]; exact hv)) (Nat.le_refl _)
        rw [World.size_alloc] at h
        exact h,
      parse_00, text_0, allocHop, allocInv, fun w => by obtain ⟨w', h1, _, h3⟩ := newHop w noHop_wf; exact ⟨w', h1, h3⟩, fun w => newHop w firstW_wf, fun w => by obtain ⟨w', h1, _, h3⟩ := newInv w noHop_wf; exact ⟨w', h1, h3⟩,
      ⟨hopC_amt firstW_wf, hopC_exp firstW_wf⟩, rfl, fun l hl => by
        obtain ⟨h, hh, rfl⟩ := List.mem_map.1 hl
        have hw : h.wf ∧ h.amt = 100 ∧ h.exp = 50 := by
          simp only [stepsW, List.mem_cons, List.not_mem_nil, or_false] at hh
          rcases hh with rfl | rfl
          · exact ⟨⟨zh_len, hash1_len _⟩, rfl, rfl⟩
          · exact ⟨⟨zh_len, zh_len⟩, rfl, rfl⟩
        refine ⟨?_, ?_⟩
        · rw [Array.getElem?_toList, hopC_amt hw.1, hw.2.1]
        · rw [Array.getElem?_toList, hopC_exp hw.1, hw.2.2]⟩⟩
end Go.Proofs.YtloiaaolnfimgaaGreat
