/- Walks: Twice, and the law's small helps. -/
import Derived.Test.YtfconncnccgenaaShaT7
set_option linter.unusedVariables false
set_option linter.unusedSimpArgs false
namespace Go.Proofs.Ytfconncnccgenaa
open Go.RowKit
section
variable {P : Program} {ops : Array Oper} {rest : List Oper} {o : Oper} {a : Act} {w : World} {Q : Exit → Act → World → Prop}
theorem wpList_slice0 (hgd : o.guard = none) (T : TypeId) (x : Operand) (ho : o.op = .slice T x none none none) (vx : Value) (hx : a.eval x = vx) {v : Value} {w' : World} (hr : (Instr.sliceAt T vx none none none).run P w = .ok v w')
    (h : wpList P ops Q rest (a.put o.dst v) w') : wpList P ops Q (o :: rest) a w :=
  wpList_plain hgd fun _ hK => by
    unfold Oper.wp execOp
    simp only [ho, Sem.run_bind, Sem.run_pure, Result.andThen_ok, Option.map_none, hx, hr]
    exact hK _ _ h
theorem wpList_buildSl (hgd : o.guard = none) (T : TypeId) (n : Nat) (parts : Array (Nat × Operand)) (ho : o.op = .buildSlice T n parts) (vs : Array (Nat × Value)) (hp : (parts.map fun (i, x) => (i, a.eval x)) = vs)
    {v : Value} {w' : World} (hr : (Instr.buildSlice T n vs).run P w = .ok v w')
    (h : wpList P ops Q rest (a.put o.dst v) w') : wpList P ops Q (o :: rest) a w :=
  wpList_plain hgd fun _ hK => by
    unfold Oper.wp execOp
    simp only [ho, Sem.run_bind, Sem.run_pure, Result.andThen_ok, hp, hr]
    exact hK _ _ h
end
theorem sliceHash {g : Nat} (W : World) : (Instr.sliceAt 26 (.pointer (some ⟨g, 0, none⟩)) none none none).run Try.prog W = .ok (.slice (some ⟨g, 0, none⟩) 32 32) W := by
  obtain ⟨i, hi0, hz, hs, hb⟩ := info_parts info5
  simp [Instr.sliceAt, run_underlying Try.underlying26, sizeOf, typeInfo, hi0, hs, go_sem]
theorem build1S (A : Option Addr) (n c : Nat) (W : World) : (Instr.buildSlice 51 1 #[(0, .slice A n c)]).run Try.prog W = .ok (.slice (some ⟨W.heap.size, 0, none⟩) 1 1) (W.alloc (.cells #[.slice A n c] 23)) := by kernel_rfl
set_option maxRecDepth 100000 in
set_option maxHeartbeats 1000000 in
theorem shaTwice_any (A : Option Addr) (n cap : Nat) (ls : List (List UInt8)) (w : World) (hn : ls.length = n) (hm : n ≤ 1000000000) (hmax : ls.flatten.length ≤ 1000000000) (hr : RdsC w A ls) :
    Calls Try.prog 12 #[.slice A n cap] w fun e w' => e = .returned (.agg (hC (Sha.sum (Sha.sum ls.flatten)))) ∧ Below w.heap.size w w' := by
  obtain ⟨h1, hh1⟩ : ∃ y, Sha.sum ls.flatten = y := ⟨_, rfl⟩
  have hl1 : h1.length = 32 := by rw [← hh1]; exact Sha.sum_len _
  obtain ⟨h2, hh2⟩ : ∃ y, Sha.sum h1 = y := ⟨_, rfl⟩
  have hl2 : h2.length = 32 := by rw [← hh2]; exact Sha.sum_len _
  have hrowA := Row.new w 26 (hC [])
  have hbA := below_new w (.cells (hC []) 26)
  have hrA := hr.below hbA
  have hcall := shaSum_any A n cap ls (w.alloc (.cells (hC []) 26)) hn hm hmax hrA
  rw [hh1] at hcall
  rw [hh1, hh2]
  have HH2 := Lib.hid hh2
  clear hh1 hh2 hr hrA hmax
  go_enter Try.func12, Try.ntmps12
  go_upto_region 2 with (first
    | (with_reducible refine wpList_alloc rfl 26 rfl (allocH _) ?_)
    | (go_at_call 10; refine hcall.mono ?_; rintro e w1 ⟨rfl, hb1⟩; have hb1' := hbA.trans (hb1.mono hbA.size); have hrow1 := hrowA.belowAll hb1; obtain ⟨wB, hstB, hrB, hgB⟩ := storeH (a := []) (b := h1) (by simp) (by omega) (Row.new w1 26 (hC [])))
    | (refine wpList_store rfl 26 (.tmp 3) (.tmp 5) rfl (.pointer (some ⟨w1.heap.size, 0, none⟩)) (.agg (hC h1)) rfl rfl hstB ?_)
    | fail)
  obtain ⟨g1, hg1⟩ : ∃ y, y = w1.heap.size := ⟨_, rfl⟩
  rw [← hg1] at hrB hgB ⊢
  have hws := hb1'.size
  have hbB : Below w.heap.size w wB := (hb1'.alloc hb1'.size _).grown hgB (by simp only [World.size_alloc]; omega) (fun j e => by cases e; omega)
  have hrowB : Row wB w.heap.size 26 (hC []) := (hrow1.alloc _).grown hgB (by intro e; injection e with e; have := hrow1.lt; omega)
  have hbC := hbB.alloc hbB.size (.cells #[.slice (some ⟨g1, 0, none⟩) 32 32] 23)
  have hrowC := hrowB.alloc (.cells #[.slice (some ⟨g1, 0, none⟩) 32 32] 23)
  have hcall2 := shaSum_any (some ⟨wB.heap.size, 0, none⟩) 1 1 [h1] _ rfl (by decide) (by simp only [List.flatten_cons, List.flatten_nil, List.append_nil]; omega) (RdsC.one 23 (rfl : wB.heap.size = _) (rd_hash hl1 hrB) hl1 (Nat.le_refl 32) (by decide))
  simp only [List.flatten_cons, List.flatten_nil, List.append_nil, HH2.out] at hcall2
  clear hcall hrowA hbA hb1 hb1' hrow1 hstB hgB hg1
  go_wp2_with (first
    | (refine wpList_slice0 rfl 26 (.tmp 3) rfl (.pointer (some ⟨g1, 0, none⟩)) rfl (sliceHash _) ?_)
    | (refine wpList_buildSl rfl 51 1 _ rfl #[(0, .slice (some ⟨g1, 0, none⟩) 32 32)] rfl (build1S _ _ _ _) ?_)
    | (go_at_call 10; refine hcall2.mono ?_; rintro e w2 ⟨rfl, hb2⟩; have hb2' := hbC.trans (hb2.mono hbC.size); have hrow2 := hrowC.belowAll hb2; obtain ⟨w9, hst9, hr9, hg9⟩ := storeH (a := []) (b := h2) (by simp) (by omega) hrow2)
    | (refine wpList_store rfl 26 (.tmp 2) (.tmp 8) rfl (.pointer (some ⟨w.heap.size, 0, none⟩)) (.agg (hC h2)) rfl rfl hst9 ?_)
    | fail)
  refine bodyPost_ret (results_cell_row rfl _ _ w.heap.size 26 (hC h2) (0, 0) _ rfl hr9 Try.underlying26 rfl (by rw [hC_size _ (by omega)]; exact infoH)) rfl ⟨rfl, hb2'.grown hg9 hb2'.size (fun j e => by cases e; exact Nat.le_refl _)⟩
theorem byteInfo8 : ByteInfo Try.prog 5 := info5
set_option maxHeartbeats 1000000 in
theorem zeros_any (n : Nat) (w : World) (hn : n ≤ 1000) :
    Calls Try.prog 32 #[.int .i64 (n : Int)] w fun e w' => e = .returned (.string ⟨(List.replicate n (48 : UInt8)).toArray⟩) ∧ Below w.heap.size w w' := by
  go_enter Try.func32, Try.ntmps32
  go_wp2
  go_loopw [3, 4] (fun v t wr => ∃ k : Nat, k ≤ n ∧ t = .int .i64 k ∧ Own 5 wr w.heap.size v (List.replicate k (48 : UInt8)) ∧ Below w.heap.size w wr) (fun _ t _ => n - (intOf t).toNat)
  case atStart => exact ⟨0, by omega, rfl, Own.nil _ _ _, Below.refl _ _⟩
  case round =>
    obtain ⟨k, hk, rfl, hown, hb⟩ := hrel
    have hbs := hb.size
    by_cases hlt : k < n
    · have hnx : List.replicate (k + 1) (48 : UInt8) = List.replicate k 48 ++ [48] := List.replicate_succ'
      have HNX := Lib.hid hnx
      have hln : (List.replicate k (48 : UInt8)).length = k := List.length_replicate
      clear hnx
      generalize List.replicate k (48 : UInt8) = acc at *
      have hb1 := hb.alloc hb.size (.cells #[.int .u8 48] 5)
      go_wp2_with (first
        | (at_builtin; refine wpList_append_bytes rfl (.tmp 10) (.tmp 11) 23 rfl w.heap.size 5 Try.underlying23 byteInfo8 u3 acc rfl (hown.alloc _) (some ⟨wr.heap.size, 0, none⟩) 1 1 [48] rfl rfl (Rd.lit wr _ [48]) (by omega) hb1.size ?_; intro v2 w2 hown2 hg2 hat2))
      rw [← HNX.out] at hown2
      go_roundw
      case rel => exact ⟨k + 1, by omega, by go_num, hown2, hb1.grown hg2 hb1.size (fun j e => (hown.at_ j e).1)⟩
      case measure => simp [intOf]; omega
    · obtain rfl : k = n := by omega
      obtain ⟨A9, c9, rfl, _, _, hrd9⟩ := hown.slice
      have hln : (List.replicate k (48 : UInt8)).length = k := List.length_replicate
      have hcv := run_string_rd wr 23 9 5 A9 (List.replicate k (48 : UInt8)).length c9 (List.replicate k (48 : UInt8)) Try.underlying23 Try.underlying5 Try.underlying9 rfl hrd9
      obtain ⟨acc, hacc⟩ : ∃ y, List.replicate k (48 : UInt8) = y := ⟨_, rfl⟩
      rw [hacc] at hcv hln hown hrd9
      have HACC := Lib.hid hacc
      clear hacc
      rw [hln] at hcv
      go_wp2
      go_ret
      exact ⟨by rw [HACC.out]; rfl, hb⟩
end Go.Proofs.Ytfconncnccgenaa
