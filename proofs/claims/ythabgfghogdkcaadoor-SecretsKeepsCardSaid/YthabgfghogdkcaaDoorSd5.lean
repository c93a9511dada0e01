/- Walks, secrets: the iterator of All. -/
import Derived.Test.YthabgfghogdkcaaDoorSd4
set_option linter.unusedVariables false
set_option linter.unusedSimpArgs false
namespace Go.Proofs.YthabgfghogdkcaaDoor
open Go.RowKit
attribute [local go_sem] Oper.semAt_some
section
variable {F : Fence} {n : Nat} {P : Program} {w : World} {ops : Array Oper} {rest : List Oper} {o : Oper} {a : Act} {Q : Exit → Act → World → Prop}
theorem wpListIn_loadG (hw : Region.wanted o (yielded ops a.tmps) = true) (T : TypeId) (x : Operand) (ho : o.op = .load T x) (vx : Value) (hx : a.eval x = vx) {v : Value} {w' : World}
    (hr : (Instr.loadAt T vx).run P w = .ok v w') (h : wpListIn F n P ops Q rest (a.put o.dst v) w') : wpListIn F n P ops Q (o :: rest) a w := by
  refine wpListIn_step fun K hK => ?_
  rw [if_pos hw]
  unfold Oper.wpIn
  refine ⟨?_, ?_⟩
  · simp [Oper.about, ho]
  · rw [Oper.semAt_plain F _ _ (by rw [ho]; intro c hc'; cases hc')]
    simp [execOp, ho, hx, hr, Result.andThen]
    exact hK _ _ h
end
theorem allocPt (w : World) : (Instr.alloc 57 true (.tuple #[])).run Tryd.prog w = .ok (.pointer (some ⟨w.heap.size, 0, none⟩)) (w.alloc (.cells (ptC 0 []) 57)) := allocP w
theorem storePt {w : World} {g : Nat} (i : Nat) (s : List UInt8) (hs : s.length ≤ 32) (hr : Row w g 57 (ptC 0 [])) :
    ∃ w', (Instr.storeAt 57 (.pointer (some ⟨g, 0, none⟩)) (.agg (ptC i s))).run Tryd.prog w = .ok () w' ∧ Row w' g 57 (ptC i s) ∧ w.grownBy w' (some g) := by
  have hk := ptC_size i s hs
  have hz := ptC_size 0 [] (by decide)
  refine ⟨_, run_store_row hr (ptC i s) (by rw [hk]; exact infoP) (by rw [hz, hk]; decide) (ptC_one i s), ?_, grown_setCells _ _ _⟩
  have h := row_setCells (ptC i s).toList 0 w _ hr
  have e : setFrom (ptC 0 []) 0 (ptC i s).toList = ptC i s := by
    apply Array.ext_getElem?
    intro j
    rw [setFrom_get _ _ _ _ (by rw [Array.length_toList, hz, hk]; decide), Array.length_toList, hk]
    by_cases hj : j < 33
    · rw [if_pos ⟨Nat.zero_le _, by omega⟩, Array.getElem?_toList, Nat.sub_zero]
    · rw [if_neg (by omega), Array.getElem?_eq_none (by rw [hz]; omega), Array.getElem?_eq_none (by rw [hk]; omega)]
  rw [e] at h
  exact h
theorem loadPlaces {w : World} {g : Nat} {n : Int} {ix : Nat → Nat} {sc : Nat → List UInt8} {made : Bool} (hr : Row w g 60 (kC n ix sc made)) :
    ∃ pc, (Instr.loadAt 58 (.pointer (some ⟨g, 1, none⟩))).run Tryd.prog w = .ok (.agg pc) w ∧ ∀ j, j < 1056 → pc[j]? = (kC n ix sc made)[1 + j]? := by
  have hz := kC_size n ix sc made
  have hsz : ((kC n ix sc made).extract 1 1057).size = 1056 := by rw [Array.size_extract, hz]; rfl
  have hj : ∀ j, j < 1056 → ((kC n ix sc made).extract 1 1057)[j]? = (kC n ix sc made)[1 + j]? := fun j hj => by
    rw [Array.getElem?_extract, hz, if_pos (by omega)]
  exact ⟨_, run_load_part hr (fun j h => (hj j (by rw [hsz] at h; exact h)).symm) Tryd.underlying58 rfl (by rw [hsz]; exact infoPl), hj⟩
set_option maxRecDepth 100000 in
set_option maxHeartbeats 4000000 in
theorem all2_seq (g c : Nat) (ix : Nat → Nat) (sc : Nat → List UInt8) (w : World) (n1 : Nat) (hn1 : 2 ≤ n1) (hs : ∀ p, (sc p).length = 32) (hix : ∀ p, ix p < 2147483648) (hk : Row w g 60 (kC c ix sc true)) :
    SeqC Fence.wide n1 Tryd.prog 49 #[.pointer (some ⟨g, 0, none⟩)] kpE (KeepR g) (fun xs => xs = Sec.items c ix sc 32) (fun _ => True) (fun pre x => ∃ p, p < 32 ∧ Sec.hasB c p = true ∧ pre = Sec.items c ix sc p ∧ x = (2147483647 - (ix p : Int), sc p)) (fun _ => False) w := fun k0 J Jx W hW hJ hJx hY h0 => by
  have hkW := hk.later hW
  obtain ⟨pc, hpl, hpc⟩ := loadPlaces hkW
  have HY := Lib.hid hY
  have HJ := Lib.hid hJ
  have HS := Lib.hid hs
  have HIX := Lib.hid hix
  have HPC := Lib.hid hpc
  have HPL := Lib.hid hpl
  clear hY hJ hJx hk hW hs hix hpc hpl
  refine callsIn_of_wp Tryd.func49 rfl trivial ?_ rfl
  simp only [Tryd.ntmps49, List.size_toArray, List.length_cons, List.length_nil, Nat.reduceAdd, Nat.reduceSub, Array.replicate_succ, Array.replicate_zero, List.push_toArray, List.append_toArray, List.nil_append, List.cons_append]
  gi_wp2
  refine wpIn_scope_wide ?_
  gi_wp2
  refine wpIn_label ?_
  have HKW := Lib.hid hkW
  clear hkW
  gi_wp2_with (first
    | (refine wpListIn_load rfl 58 (.tmp 5) rfl (.pointer (some ⟨g, 1, none⟩)) rfl HPL.out ?_)
    | fail)
  gi_loopw [7] (fun t wr => ∃ p : Nat, p ≤ 32 ∧ t = .int .i64 p ∧ Row wr g 60 (kC c ix sc true) ∧ J (Sec.items c ix sc p) wr) (fun t _ => 32 - (intOf t).toNat)
  case atStart => exact ⟨0, by decide, rfl, HKW.out, h0⟩
  case round =>
    obtain ⟨p, hp, rfl, hkr, hJs⟩ := hrel
    clear HKW HPL h0
    by_cases hlt : p < 32
    · have hip := idxPlace (pc := pc) (p := p) (i := ix p) (s := sc p) hlt (Nat.le_of_eq (HS.out p)) (fun j hj => by rw [HPC.out _ (by omega), ← kC_place c ix sc true p hlt (Nat.le_of_eq (HS.out p)) j hj, Nat.add_assoc])
      have hix := HIX.out p
      have hsl := HS.out p
      have hstep : Sec.hasB c p = true → Sec.items c ix sc (p + 1) = Sec.items c ix sc p ++ [(2147483647 - (ix p : Int), sc p)] := Sec.items_yes
      have hskip : Sec.hasB c p = false → Sec.items c ix sc (p + 1) = Sec.items c ix sc p := Sec.items_no
      obtain ⟨w1, hst, hr4, hg4⟩ := storePt (ix p) (sc p) (Nat.le_of_eq hsl) (Row.new wr 57 (ptC 0 []))
      have hal := allocPt wr
      have hL1 : Later wr w1 := Below.grown ((Later.refl wr).alloc _) hg4 (by simp only [World.size_alloc]; omega) (fun j e => by cases e; exact Nat.le_refl _)
      have hk1 := hkr.later hL1
      have hJ1 := HJ.out _ wr w1 none hJs (grown_of_below hL1) (fun r e => by cases e)
      have hhas := has_any g c p ix sc true w1 (by omega) hk1
      have c4 : w1.cell? ⟨wr.heap.size, 0, none⟩ = some (.int .i64 (ix p : Int)) := (hr4.cell 0).trans (ptC_ix _ _)
      have hh4 := loadPtHash (Nat.le_of_eq hsl) hr4
      have hyld := fun h => HY.out (Sec.items c ix sc p) (2147483647 - (ix p : Int), sc p) w1 hJ1 ⟨p, hlt, h, rfl, rfl⟩
      generalize ix p = i at *
      generalize sc p = s at *
      generalize Sec.items c ix sc p = its at *
      have HIP := Lib.hid hip
      have HST := Lib.hid hst
      have HAL := Lib.hid hal
      have HHAS := Lib.hid hhas
      have HH4 := Lib.hid hh4
      have HYLD := Lib.hid hyld
      have HSTEP := Lib.hid hstep
      have HSKIP := Lib.hid hskip
      have HK1 := Lib.hid hk1
      clear hip hst hal hhas hh4 hyld hstep hskip hg4 hkr hJs hr4 hk1
      rcases hb : Sec.hasB c p with _ | _
      · have HB := Lib.hid hb
        rw [hb] at HHAS
        clear hb
        gi_wp2_with (first
          | (refine wpListIn_idx rfl 58 (.tmp 6) (.tmp 7) rfl (.agg pc) (.int .i64 (p : Int)) rfl rfl (HIP.out _) ?_)
          | (refine wpListIn_allocR rfl 57 rfl HAL.out ?_)
          | (refine wpListIn_storeR rfl 57 (.tmp 4) (.tmp 10) rfl (.pointer (some ⟨wr.heap.size, 0, none⟩)) (.agg (ptC i s)) rfl rfl HST.out ?_)
          | (refine ⟨trivial, fun _ => by omega, (callsIn_wide.2 HHAS.out).mono ?_⟩; rintro e w2 ⟨rfl, rfl⟩)
          | fail)
        refine ⟨fun f h => trivial, ?_⟩
        gi_wp2
        go_roundw
        case rel => exact ⟨p + 1, by omega, by go_num, HK1.out, by rw [HSKIP.out HB.out]; exact hJ1⟩
        case measure => simp [intOf]; omega
      · have HB := Lib.hid hb
        rw [hb] at HHAS
        obtain ⟨fn, tmps, assign, body, hy, hR⟩ := HYLD.out hb
        clear hb
        gi_wp2_with (first
          | (refine wpListIn_idx rfl 58 (.tmp 6) (.tmp 7) rfl (.agg pc) (.int .i64 (p : Int)) rfl rfl (HIP.out _) ?_)
          | (refine wpListIn_allocR rfl 57 rfl HAL.out ?_)
          | (refine wpListIn_storeR rfl 57 (.tmp 4) (.tmp 10) rfl (.pointer (some ⟨wr.heap.size, 0, none⟩)) (.agg (ptC i s)) rfl rfl HST.out ?_)
          | (refine ⟨trivial, fun _ => by omega, (callsIn_wide.2 HHAS.out).mono ?_⟩; rintro e w2 ⟨rfl, rfl⟩)
          | (refine wpListIn_loadG rfl 23 (.tmp 18) rfl (.pointer (some ⟨wr.heap.size, 1, none⟩)) rfl HH4.out ?_)
          | fail)
        refine ⟨fun _ => by omega, hR.mono ?_⟩
        rintro e W5 (⟨rfl, hJ5, hk5⟩ | ⟨rfl, hJx5⟩)
        · have hk6 := hk5 _ _ HK1.out
          clear hk5 hy hR
          gi_wp2
          go_roundw
          case rel => exact ⟨p + 1, by omega, by go_num, hk6, by rw [HSTEP.out HB.out]; exact hJ5⟩
          case measure => simp [intOf]; omega
        · gi_wp2
          rw [Exit.noGoto_normal]
          go_end0
          exact ⟨⟨_, rfl⟩, .inr ⟨_, trivial, hJx5⟩⟩
    · obtain rfl : p = 32 := by omega
      gi_wp2
      rw [Exit.noGoto_normal]
      go_end0
      exact ⟨⟨_, rfl⟩, .inl ⟨_, rfl, hJs⟩⟩
end Go.Proofs.YthabgfghogdkcaaDoor
