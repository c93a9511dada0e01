/- Walks: a tag under way. -/
import Derived.Test.YtbjclmfhmdalkaaHm3
set_option linter.unusedVariables false
set_option linter.unusedSimpArgs false
namespace Go.Proofs.Ytbjclmfhmdalkaa
open Go.RowKit
section
variable {P : Program} {Q : Exit → Act → World → Prop} {o : Oper} {a : Act} {W : World} {R : Value → World → Prop}
theorem op_boxR {t : TypeId} {x : Operand} {vx v : Value} {W' : World} (ho : o.op = .box t x) (hx : a.eval x = vx) (hr : (Instr.box t vx).run P W = .ok v W') (hL : Later W W') (h : R v W') : o.wp P a W (fun a' W' => ∃ v, a' = a.put o.dst v ∧ Later W W' ∧ R v W') Q := by
  refine op_value (v := v) (W' := W') ?_ hL h
  unfold execOp
  simp only [ho, hx, hr, Sem.run_bind, Sem.run_pure, Result.andThen_ok]
theorem op_buildR {t : TypeId} {parts : Array (Nat × Operand)} {vs : Array (Nat × Value)} {v : Value} (ho : o.op = .build t parts) (hp : (parts.map fun (i, x) => (i, a.eval x)) = vs) (hr : (Instr.build t vs).run P W = .ok v W) (h : R v W) : o.wp P a W (fun a' W' => ∃ v, a' = a.put o.dst v ∧ Later W W' ∧ R v W') Q := by
  refine op_value (v := v) (W' := W) ?_ (Later.refl _) h
  unfold execOp
  simp only [ho, hp, hr, Sem.run_bind, Sem.run_pure, Result.andThen_ok]
end
def macC (gr : Nat) (kb : List UInt8) : Array Value := (.pointer (some ⟨gr, 0, none⟩) :: kb.map byteV).toArray
theorem macC_size (gr : Nat) (kb : List UInt8) : (macC gr kb).size = kb.length + 1 := by simp [macC]
theorem infoM : (Try.prog.info? 77).map (·.size) = some 65 := by kernel_rfl
theorem infoMl {gr : Nat} {kb : List UInt8} (h : kb.length = 64) : (Try.prog.info? 77).map (·.size) = some (macC gr kb).size := by rw [macC_size, h]; exact infoM
theorem macC_one (gr : Nat) (kb : List UInt8) : (macC gr kb).all (·.oneCell') = true := by
  rw [Array.all_eq_true_iff_forall_mem]
  intro v hv
  unfold macC at hv
  rw [List.mem_toArray] at hv
  rcases List.mem_cons.1 hv with rfl | hv
  · rfl
  · obtain ⟨i, hi, rfl⟩ := List.mem_map.1 hv
    rfl
theorem aB_range (l : List UInt8) (n : Nat) (h : l.length = n) : aB l = ((List.range n).map fun i => byteV (l.getD i 0)).toArray := by
  unfold aB
  apply congrArg List.toArray
  apply List.ext_getElem (by simp [h])
  intro i h1 h2
  rw [List.length_map] at h1
  simp [List.getD_eq_getElem?_getD, List.getElem?_eq_getElem h1]
theorem macC_range (gr : Nat) (l : List UInt8) (h : l.length = 64) : macC gr l = (.pointer (some ⟨gr, 0, none⟩) :: (List.range 64).map fun i => byteV (l.getD i 0)).toArray := by
  unfold macC
  have := congrArg Array.toList (aB_range l 64 h)
  unfold aB at this
  rw [show l.map byteV = (List.range 64).map fun i => byteV (l.getD i 0) from this]
theorem buildSum (gr : Nat) (w : World) : (Instr.build 72 #[(0, .pointer (some ⟨gr, 0, none⟩))]).run Try.prog w = .ok (.agg #[.pointer (some ⟨gr, 0, none⟩)]) w := by kernel_rfl
theorem buildMac0 (gr : Nat) (f : Nat → UInt8) (w : World) : (Instr.build 77 #[(0, .agg #[.pointer (some ⟨gr, 0, none⟩)]), (1, .agg ((List.range 64).map fun i => byteV (f i)).toArray)]).run Try.prog w = .ok (.agg (.pointer (some ⟨gr, 0, none⟩) :: (List.range 64).map fun i => byteV (f i)).toArray) w := by kernel_rfl
theorem buildMac (gr : Nat) (l : List UInt8) (h : l.length = 64) (w : World) : (Instr.build 77 #[(0, .agg #[.pointer (some ⟨gr, 0, none⟩)]), (1, .agg (aB l))]).run Try.prog w = .ok (.agg (macC gr l)) w := by
  rw [aB_range l 64 h, macC_range gr l h]
  exact buildMac0 gr _ w
theorem boxM (gr : Nat) (l : List UInt8) (h : l.length = 64) (w : World) : (Instr.box 77 (.agg (macC gr l))).run Try.prog w = .ok (.pointer (some ⟨w.heap.size, 0, none⟩)) (w.alloc (.cells (macC gr l) 77)) :=
  run_box_row w _ _ (infoMl h)
theorem fieldM0 {b : Nat} {W : World} : (Instr.fieldAt 77 (.pointer (some ⟨b, 0, none⟩)) 0).run Try.prog W = .ok (.pointer (some ⟨b, 0, none⟩)) W := by go_simp
theorem fieldM1 {b : Nat} {W : World} : (Instr.fieldAt 77 (.pointer (some ⟨b, 0, none⟩)) 1).run Try.prog W = .ok (.pointer (some ⟨b, 1, none⟩)) W := by go_simp
theorem fieldS0 {b : Nat} {W : World} : (Instr.fieldAt 72 (.pointer (some ⟨b, 0, none⟩)) 0).run Try.prog W = .ok (.pointer (some ⟨b, 0, none⟩)) W := by go_simp
theorem loadRun {b o : Nat} {v : Option Addr} {W : World} (hc : W.cell? ⟨b, o, none⟩ = some (.pointer v)) : (Instr.loadAt 69 (.pointer (some ⟨b, o, none⟩))).run Try.prog W = .ok (.pointer v) W := by
  go_simp
theorem mac_run {w : World} {g gr : Nat} {l : List UInt8} (h : Row w g 77 (macC gr l)) : w.cell? ⟨g, 0, none⟩ = some (.pointer (some ⟨gr, 0, none⟩)) := (h.cell 0).trans rfl
theorem mac_key {w : World} {g gr : Nat} {l : List UInt8} (hl : l.length = 64) (h : Row w g 77 (macC gr l)) : (Instr.loadAt 74 (.pointer (some ⟨g, 1, none⟩))).run Try.prog w = .ok (.agg (aB l)) w :=
  run_load_part h (fun j _ => by
    simp only [macC, aB, List.getElem?_toArray]
    rw [Nat.add_comm 1 j, List.getElem?_cons_succ]) Try.underlying74 rfl (infoKl hl)
/-- A tag under way: its own block, its sum's, its key, its bytes. -/
structure IsMac (w : World) (g gr : Nat) (key msg : List UInt8) : Prop where
  ne : g ≠ gr
  row : Row w g 77 (macC gr (Hm.pad key))
  run : IsRun w gr (Hm.turn 54 (Hm.pad key) ++ msg)
theorem IsMac.later {w w' : World} {g gr : Nat} {key msg : List UInt8} (h : IsMac w g gr key msg) (hL : Later w w') : IsMac w' g gr key msg := ⟨h.ne, h.row.later hL, h.run.later hL⟩
theorem IsMac.grown {w w' : World} {g gr : Nat} {key msg : List UInt8} {row : Option Nat} (h : IsMac w g gr key msg) (hg : w.grownBy w' row) (h1 : some g ≠ row) (h2 : some gr ≠ row) : IsMac w' g gr key msg := ⟨h.ne, h.row.grown hg h1, h.run.grown hg h2⟩
def Pr.fnBy (c : UInt8) : Pr := ⟨fun v W => ∃ gc, v = .func (.func 45) #[] #[.pointer (some ⟨gc, 0, none⟩)] ∧ W.cell? ⟨gc, 0, none⟩ = some (.int .u8 (c.toNat : Int)), fun _ _ _ ⟨g, e, h⟩ hL => ⟨g, e, hL.cell h⟩⟩
def Pr.sl (b n : Nat) (l : List UInt8) : Pr := ⟨fun v W => ∃ g, v = .slice (some ⟨g, 0, none⟩) n n ∧ b ≤ g ∧ Rd W (some ⟨g, 0, none⟩) l, fun _ _ _ ⟨g, e, h0, h⟩ hL => ⟨g, e, h0, h.later hL⟩⟩
def Pr.rowsC (n : Nat) (ls : List (List UInt8)) : Pr := ⟨fun v W => ∃ g, v = .slice (some ⟨g, 0, none⟩) n n ∧ RdsC W (some ⟨g, 0, none⟩) ls, fun _ _ _ ⟨g, e, h⟩ hL => ⟨g, e, h.below hL⟩⟩
theorem by_at (c : UInt8) (z : Int) (hz : z = (c.toNat : Int)) (w : World) :
    Calls Try.prog 33 #[.int .u8 z] w fun e w' => ∃ v, e = .returned v ∧ Later w w' ∧ (Pr.fnBy c).R v w' := by
  subst hz
  exact (by_any c w).mono fun e w' ⟨g, he, hr, hL⟩ => ⟨_, he, hL, g, rfl, (hr.cell 0).trans rfl⟩
theorem none_mac (g gr : Nat) (key msg : List UInt8) (w : World) (h : IsMac w g gr key msg) : Calls Try.prog 34 #[.pointer (some ⟨g, 0, none⟩)] w fun e w' => e = .returned (.bool false) ∧ w = w' := by
  have hc := mac_run h.row
  clear h
  go_enter Try.func34, Try.ntmps34
  go_wp2
  go_ret
  exact ⟨rfl, rfl⟩
set_option maxRecDepth 100000 in
set_option maxHeartbeats 1000000 in
theorem newMac_any (A : Option Addr) (n ca : Nat) (key : List UInt8) (w : World) (hn : key.length = n) (hc : n ≤ ca) (hcm : ca ≤ 9223372036854775807) (hm : n ≤ 1000000) (hr : Rd w A key) :
    Calls Try.prog 18 #[.slice A n ca] w fun e w' => ∃ g gr, e = .returned (.pointer (some ⟨g, 0, none⟩)) ∧ IsMac w' g gr key [] ∧ w.heap.size ≤ g ∧ w.heap.size ≤ gr ∧ Later w w' := by
  have hpl := Hm.pad_len key
  have hpo := fun W (hL : Later w W) => of_any A n ca key W hn hc hcm hm (hr.later hL)
  generalize hkb : Hm.pad key = kb at *
  have HPL := Lib.hid hpl
  have HKB := Lib.hid hkb
  have HPO := Lib.hid hpo
  clear hpl hkb hpo hn
  go_enter Try.func18, Try.ntmps18
  go_upto_region 2 with (first
    | (go_at_call 30; refine (new_any _).mono ?_; rintro e w1 ⟨gr, rfl, hrun, hgr, hb1⟩)
    | (refine wpList_build1 rfl 72 0 (.tmp 4) rfl (.pointer (some ⟨gr, 0, none⟩)) rfl (buildSum gr _) ?_)
    | (go_at_call 31; refine (HPO.out _ hb1).mono ?_; rintro e w2 ⟨rfl, hb2⟩)
    | (refine wpList_buildC rfl 77 _ rfl #[(0, .agg #[.pointer (some ⟨gr, 0, none⟩)]), (1, .agg (aB kb))] (by first | rfl | kernel_rfl) (buildMac gr kb HPL.out _) ?_)
    | (refine wpList_box rfl 77 (.tmp 8) rfl (.agg (macC gr kb)) rfl (boxM gr kb HPL.out _) ?_)
    | fail)
  have hL2 : Later w w2 := Later.step hb1 hb2
  have hrun2 := (hrun.later hb2).later ((Later.refl w2).alloc (.cells (macC gr kb) 77))
  have hgl := (hrun.later hb2).lt
  obtain ⟨g, hg⟩ : ∃ q, q = w2.heap.size := ⟨_, rfl⟩
  have hrow : Row (w2.alloc (.cells (macC gr kb) 77)) g 77 (macC gr kb) := by rw [hg]; exact Row.new _ _ _
  have hL3 := hL2.alloc (.cells (macC gr kb) 77)
  have hgw : w.heap.size ≤ g := by have := hL2.size; omega
  have hgne : g ≠ gr := by omega
  rw [← hg]
  clear hg hrun hb1 hb2 hL2
  generalize w2.alloc (.cells (macC gr kb) 77) = w3 at *
  have hcm0 := mac_run hrow
  refine (wpIn_wide (n := 0)).1 ?_
  refine wpIn_region_last wide_wide [Pr.eq (.pointer (some ⟨g, 0, none⟩)), Pr.eq (.pointer (some ⟨g, 0, none⟩)), Pr.eq (.pointer (some ⟨g, 0, none⟩)), Pr.eq (.pointer (some ⟨g, 0, none⟩)), Pr.eq (.pointer (some ⟨gr, 0, none⟩)), Pr.fnBy 54, Pr.eq (.pointer (some ⟨g, 0, none⟩)), Pr.eq (.pointer (some ⟨g, 0, none⟩)), Pr.eq (.pointer (some ⟨g, 1, none⟩)), Pr.eq (.agg (aB kb)), Pr.sl w3.heap.size 64 (Hm.turn 54 kb)] (by kernel_rfl) (by kernel_rfl) (by kernel_rfl) (by kernel_rfl) (by kernel_rfl) (by kernel_rfl) rfl ⟨?_, ?_, ?_, ?_, ?_, ?_, ?_, ?_, ?_, ?_, ?_, trivial⟩ ?_
  · exact fun ac W hL he => stepOk_want rfl (op_move rfl (he.keep (.tmp 3) (by kernel_rfl)))
  · exact fun ac W hL he => stepOk_want rfl (op_nil rfl (he.get 0 10 (by kernel_rfl) rfl) rfl)
  · exact fun ac W hL he => stepOk_want rfl (op_fieldAddr rfl (he.get 1 11 (by kernel_rfl) rfl) fieldM0 rfl)
  · exact fun ac W hL he => stepOk_want rfl (op_fieldAddr rfl (he.get 2 12 (by kernel_rfl) rfl) fieldS0 rfl)
  · exact fun ac W hL he => stepOk_want rfl (op_load rfl (he.get 3 13 (by kernel_rfl) rfl) (loadRun (hL.cell hcm0)) rfl)
  · intro ac W hL he; refine stepOk_want rfl ?_; exact op_callF (vs := #[.int .u8 54]) rfl (by simp [Act.eval]) (enters_of Try.func33 (by kernel_rfl) rfl) (by_at 54 _ rfl W)
  · exact fun ac W hL he => stepOk_want rfl (op_move rfl (he.keep (.tmp 3) (by kernel_rfl)))
  · exact fun ac W hL he => stepOk_want rfl (op_nil rfl (he.get 6 16 (by kernel_rfl) rfl) rfl)
  · exact fun ac W hL he => stepOk_want rfl (op_fieldAddr rfl (he.get 7 17 (by kernel_rfl) rfl) fieldM1 rfl)
  · exact fun ac W hL he => stepOk_want rfl (op_load rfl (he.get 8 18 (by kernel_rfl) rfl) (mac_key HPL.out (hrow.later hL)) rfl)
  · intro ac W hL he; refine stepOk_want rfl ?_; obtain ⟨gc, e0, hgc⟩ : ∃ gc, ac.eval (.tmp 15) = .func (.func 45) #[] #[.pointer (some ⟨gc, 0, none⟩)] ∧ W.cell? ⟨gc, 0, none⟩ = some (.int .u8 ((54 : UInt8).toNat : Int)) := he.get 5 15 (by kernel_rfl) rfl; have e1 : ac.eval (.tmp 19) = .agg (aB kb) := he.get 9 19 (by kernel_rfl) rfl; exact op_callV (vs := #[.agg (aB kb)]) rfl e0 (by simp only [List.map_toArray, List.map_cons, List.map_nil, e1]) (enters_of Try.func45 (by kernel_rfl) rfl) rfl ((by1_any kb 54 gc W HPL.out hgc).mono fun e W' ⟨g', he', hrd, hge, hL'⟩ => ⟨_, he', hL', g', rfl, Nat.le_trans hL.size hge, hrd⟩)
  · intro xs W hL hx hk hg
    have e1 := hg 4 14 (by decide) (by kernel_rfl)
    have e2 := hg 10 20 (by decide) (by kernel_rfl)
    have v1 : xs 4 = .pointer (some ⟨gr, 0, none⟩) := hx 4 (by decide)
    obtain ⟨gb, v2, hgb, hrd⟩ : ∃ gb, xs 10 = .slice (some ⟨gb, 0, none⟩) 64 64 ∧ w3.heap.size ≤ gb ∧ Rd W (some ⟨gb, 0, none⟩) (Hm.turn 54 kb) := hx 10 (by decide)
    rw [v1] at e1
    rw [v2] at e2
    have hrunW := hrun2.later hL
    have hrowW := hrow.later hL
    have hgr3 := hrun2.lt
    refine last_callF (vs := #[.pointer (some ⟨gr, 0, none⟩), .slice (some ⟨gb, 0, none⟩) 64 64]) rfl (by simp only [List.map_toArray, List.map_cons, List.map_nil, e1, e2]) (enters_of Try.func32 (by kernel_rfl) rfl) ?_
    refine (write_any gr [] (some ⟨gb, 0, none⟩) 64 64 (Hm.turn 54 kb) W hrunW (by rw [Hm.turn_len, HPL.out]) (Nat.le_refl _) (by decide) hrd (fun ad e _ e2 => by cases e; simp at e2; omega) (by decide)).mono ?_
    rintro e w5 ⟨rfl, hrun5, hg5⟩
    refine ⟨_, rfl, ?_⟩
    have hrow5 := hrowW.grown hg5 (by intro e; injection e with e; exact hgne e)
    have hL5 : Later w w5 := Below.grown (hL3.step hL) hg5 (hL3.step hL).size (fun j e => by cases e; exact hgr)
    clear hx hk hg e1 e2 v1 v2
    simp only [initL, lastL, putL, Nat.reduceAdd, Act.put, List.setIfInBounds_toArray, List.set_cons_succ, List.set_cons_zero]
    go_wp2_with fail
    go_ret
    exact ⟨g, gr, rfl, ⟨hgne, by rw [HKB.out]; exact hrow5, by rw [HKB.out, List.append_nil]; simpa using hrun5⟩, hgw, hgr, hL5⟩
theorem writeMac_any (g gr : Nat) (key msg : List UInt8) (A : Option Addr) (n c : Nat) (b : List UInt8) (w : World) (h : IsMac w g gr key msg) (hb : b.length = n) (hcap : n ≤ c) (hmc : c ≤ 9223372036854775807) (hr : Rd w A b) (hne : ∀ ad, A = some ad → b ≠ [] → ad.block ≠ gr) (hmax : msg.length + n ≤ 1000000000) :
    Calls Try.prog 19 #[.pointer (some ⟨g, 0, none⟩), .slice A n c] w fun e w' => e = .returned (.int .i64 0) ∧ IsMac w' g gr key (msg ++ b) ∧ w.grownBy w' (some gr) := by
  have hcell := mac_run h.row
  have hw := write_any gr _ A n c b w h.run hb hcap hmc hr hne (by rw [List.length_append, Hm.turn_len, Hm.pad_len]; omega)
  rw [List.append_assoc] at hw
  have HH := Lib.hid h
  clear hb
  go_enter Try.func19, Try.ntmps19
  go_wp2_with (first
    | (go_at_call 34; refine (none_mac g gr key msg _ HH.out).mono ?_; rintro e w' ⟨rfl, rfl⟩)
    | (go_at_call 32; refine hw.mono ?_; clear hw; rintro e w2 ⟨rfl, hrun, hg⟩)
    | fail)
  go_ret
  exact ⟨rfl, ⟨HH.out.ne, HH.out.row.grown hg (by intro e; injection e with e; exact HH.out.ne e), hrun⟩, hg⟩
end Go.Proofs.Ytbjclmfhmdalkaa
