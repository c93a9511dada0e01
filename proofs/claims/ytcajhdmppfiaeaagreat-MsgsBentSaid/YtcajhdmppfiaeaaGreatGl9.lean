/- Walks, msgs: the document's num and hash. -/
import Derived.Test.YtcajhdmppfiaeaaGreatGl8
set_option linter.unusedVariables false
set_option linter.unusedSimpArgs false
namespace Go.Proofs.YtcajhdmppfiaeaaGreat
open Go.RowKit Ms
theorem refNumA_any (v : Value) (l : List UInt8) (base n : Nat) (w : World) (hown : Own 5 w base v l) (hb : base ≤ w.heap.size) (hn : n < 9223372036854775808) (hl : l.length ≤ 140737488355000) :
    Calls Tryz.prog 36 #[v, .int .i64 (n : Int)] w fun e w' => ∃ v', e = .returned v' ∧ Own 5 w' base v' (l ++ Wr.bytes n) ∧ Below base w w' := by
  have hnum := refNumber_any n w hn
  have hbl := Wr.bytes_le n
  obtain ⟨A0, n0, c0, rfl⟩ := hown.shape
  have HO := Lib.hid hown
  clear hown
  go_enter Tryz.func36, Tryz.ntmps36
  go_wp2_with (first
    | (go_at_call 92; refine hnum.mono ?_; clear hnum; rintro e w1 ⟨v1, rfl, hown1, hL1⟩; obtain ⟨A1, c1, rfl, hc1, hc2, hr1⟩ := hown1.slice)
    | (at_builtin; refine wpList_append_bytes rfl (.tmp 5) (.tmp 7) 32 rfl base 5 Tryz.underlying32 byteInfo _ l rfl (HO.out.later hL1) A1 (Wr.bytes n).length c1 (Wr.bytes n) rfl rfl hr1 (by omega) (Nat.le_trans hb hL1.size) ?_; intro v4 w4 hown4 hg4 hat4; obtain ⟨A4, n4, c4, rfl⟩ := hown4.shape)
    | fail)
  go_ret
  exact ⟨_, rfl, hown4, (hL1.below.mono hb).grown hg4 (Nat.le_trans hb hL1.size) (fun q e => ((HO.out.later hL1).at_ q e).1)⟩
theorem boxHash (h : List UInt8) (hl : h.length = 32) (w : World) : (Instr.box 24 (.agg (hC h))).run Tryz.prog w = .ok (.pointer (some ⟨w.heap.size, 0, none⟩)) (w.alloc (.cells (hC h) 24)) := run_box_row w _ _ (by rw [hC_size _ (Nat.le_of_eq hl)]; exact infoH)
theorem refHashA_any (v : Value) (l h : List UInt8) (base : Nat) (w : World) (hown : Own 5 w base v l) (hb : base ≤ w.heap.size) (hh : h.length = 32) (hl : l.length ≤ 140737488355000) :
    Calls Tryz.prog 37 #[v, .agg (hC h)] w fun e w' => ∃ v', e = .returned v' ∧ Own 5 w' base v' (l ++ h) ∧ Below base w w' := by
  have hbx := boxHash h hh w
  have k1 := Row.new w 24 (hC h)
  have hb1 := (below_new w (.cells (hC h) 24)).mono hb
  have hz1 : base ≤ (w.alloc (.cells (hC h) 24)).heap.size := Nat.le_trans hb (below_new w (.cells (hC h) 24)).size
  have hown1 := hown.alloc (.cells (hC h) 24)
  have hr1 : Rd (w.alloc (.cells (hC h) 24)) (some ⟨w.heap.size, 0, none⟩) h := rd_hash hh k1
  obtain ⟨A0, n0, c0, rfl⟩ := hown.shape
  have HO := Lib.hid hown1
  clear hown hown1
  go_enter Tryz.func37, Tryz.ntmps37
  go_upto_region 1 with fail
  obtain ⟨g, hg⟩ : ∃ q, q = w.heap.size := ⟨_, rfl⟩
  rw [← hg] at hr1 k1 ⊢
  clear hbx hg
  generalize w.alloc (.cells (hC h) 24) = w1 at *
  go_wp2_with (first
    | (guard_target =~ wpList _ _ _ (_ :: _) _ _; refine wpList_slice0 rfl 24 (.tmp 3) rfl (.pointer (some ⟨g, 0, none⟩)) rfl (sliceHash w1) ?_)
    | (at_builtin; refine wpList_append_bytes rfl (.tmp 5) (.tmp 6) 32 rfl base 5 Tryz.underlying32 byteInfo _ l rfl HO.out (some ⟨g, 0, none⟩) 32 32 h rfl hh hr1 (by omega) hz1 ?_; intro v4 w4 hown4 hg4 hat4; obtain ⟨A4, n4, c4, rfl⟩ := hown4.shape)
    | fail)
  go_ret
  exact ⟨_, rfl, hown4, hb1.grown hg4 hz1 (fun q e => (HO.out.at_ q e).1)⟩
end Go.Proofs.YtcajhdmppfiaeaaGreat
