/- Walks, secrets: Raw. -/
import Derived.Test.YthabgfghogdkcaaDoorSd6
set_option linter.unusedVariables false
set_option linter.unusedSimpArgs false
namespace Go.Proofs.YthabgfghogdkcaaDoor
open Go.RowKit
attribute [local go_sem] Oper.semAt_some
def Sec.raw (c : Nat) (ix : Nat → Nat) (sc : Nat → List UInt8) : List UInt8 := Wr.bytes c ++ ((Sec.items c ix sc 32).map (·.2)).flatten
theorem Sec.items_len {c : Nat} {ix : Nat → Nat} {sc : Nat → List UInt8} (hs : ∀ p, (sc p).length = 32) (k : Nat) : (((Sec.items c ix sc k).map (·.2)).flatten).length ≤ 32 * k := by
  induction k with
  | zero => simp [Sec.items]
  | succ k ih =>
    rcases hb : Sec.hasB c k with _ | _
    · rw [Sec.items_no hb]; omega
    · rw [Sec.items_yes hb, List.map_append, List.flatten_append, List.length_append]
      simp only [List.map_cons, List.map_nil, List.flatten_cons, List.flatten_nil, List.append_nil, hs]
      omega
set_option maxRecDepth 100000 in
set_option maxHeartbeats 4000000 in
theorem raw_any (g c : Nat) (ix : Nat → Nat) (sc : Nat → List UInt8) (w : World) (hc : c ≤ 2147483648) (hk : IsKeep w g c ix sc) :
    Calls Tryd.prog 19 #[.pointer (some ⟨g, 0, none⟩)] w fun e w' => ∃ v, e = .returned v ∧ Own 5 w' w.heap.size v (Sec.raw c ix sc) ∧ Below w.heap.size w w' := by
  have hno := knone_no g c ix sc w hk.row
  have hs := hk.len
  have hix := hk.lim
  have hkr := hk.row
  have hnew := wnew_any w
  have HNO := Lib.hid hno
  have HNEW := Lib.hid hnew
  have HS := Lib.hid hs
  have HIX := Lib.hid hix
  clear hno hnew hs hix hk
  refine (callsIn_wide (n := 6)).1 ?_
  refine callsIn_of_wp_marks Tryd.func19 rfl trivial ?_ rfl
  simp only [Tryd.ntmps19, List.size_toArray, List.length_cons, List.length_nil, Nat.reduceAdd, Nat.reduceSub, Array.replicate_succ, Array.replicate_zero, List.push_toArray, List.append_toArray, List.nil_append, List.cons_append]
  refine wpIn_wide.2 ?_
  go_upto_region 4 with (first
    | (go_at_call 27; refine HNO.out.mono ?_; rintro e w2 ⟨hww, rfl⟩; replace hww := hww.symm; subst hww)
    | (go_at_call 44; refine HNEW.out.mono ?_; rintro e w1 ⟨rfl, hwr, hL1, hlt1⟩)
    | fail)
  have k3 := Row.new w1 80 #[.pointer (some ⟨w.heap.size, 0, none⟩)]
  have hL3 : Later w (w1.alloc (.cells #[.pointer (some ⟨w.heap.size, 0, none⟩)] 80)) := hL1.alloc _
  have hw3 := hwr.later ((Later.refl w1).alloc (.cells #[.pointer (some ⟨w.heap.size, 0, none⟩)] 80))
  have hk3 := hkr.later hL3
  have hglt := hkr.lt
  have hs3 : w1.heap.size < (w1.alloc (.cells #[.pointer (some ⟨w.heap.size, 0, none⟩)] 80)).heap.size := by rw [World.size_alloc]; omega
  generalize hW3 : w1.alloc (.cells #[.pointer (some ⟨w.heap.size, 0, none⟩)] 80) = w3 at *
  obtain ⟨gw, hgw⟩ : ∃ q, q = w.heap.size := ⟨_, rfl⟩
  obtain ⟨q3, hq3⟩ : ∃ q, q = w1.heap.size := ⟨_, rfl⟩
  rw [← hgw] at hw3 hlt1 k3 hglt ⊢
  rw [← hq3] at hs3 hlt1 k3 ⊢
  have HGW := Lib.hid hgw
  clear hW3 hgw hq3 hwr hL1 HNEW HNO hkr
  refine (wpIn_wide (n := 0)).1 ?_
  refine wpIn_region_last wide_wide [Pr.eq (.pointer (some ⟨gw, 0, none⟩)), Pr.eq (.pointer (some ⟨g, 0, none⟩)), Pr.eq (.pointer (some ⟨g, 0, none⟩)), Pr.eq (.pointer (some ⟨g, 0, none⟩)), Pr.eq (.pointer (some ⟨g, 0, none⟩)), Pr.eq (.int .i64 (c : Int)), Pr.numsB w3.heap.size (c : Int)] (by kernel_rfl) (by kernel_rfl) (by kernel_rfl) (by kernel_rfl) (by kernel_rfl) (by kernel_rfl) rfl ⟨?_, ?_, ?_, ?_, ?_, ?_, ?_, trivial⟩ ?_
  · exact fun ac W hL he => stepOk_want rfl (op_load rfl (he.keep (.tmp 3) (by kernel_rfl)) (loadPW (((k3.later hL).cell 0).trans rfl)) rfl)
  · exact fun ac W hL he => stepOk_want rfl (op_move rfl (he.keep (.tmp 0) (by kernel_rfl)))
  · exact fun ac W hL he => stepOk_want rfl (op_nil rfl (he.get 1 10 (by kernel_rfl) rfl) rfl)
  · exact fun ac W hL he => stepOk_want rfl (op_fieldAddr rfl (he.get 2 11 (by kernel_rfl) rfl) fieldCount rfl)
  · exact fun ac W hL he => stepOk_want rfl (op_fieldAddr rfl (he.get 3 12 (by kernel_rfl) rfl) fieldN rfl)
  · exact fun ac W hL he => stepOk_want rfl (op_load rfl (he.get 4 13 (by kernel_rfl) rfl) (loadI64 (((hk3.later hL).cell 0).trans (kC_n _ _ _ _))) rfl)
  · intro ac W hL he; refine stepOk_want rfl ?_; have e0 : ac.eval (.tmp 14) = numV (c : Int) := he.get 5 14 (by kernel_rfl) rfl; exact op_buildSlice (W' := _) (vs := #[(0, numV (c : Int))]) rfl (by simp only [List.map_toArray, List.map_cons, List.map_nil, e0]) (buildN1 (c : Int) W) ((Later.refl W).alloc _) ⟨_, rfl, RdV.row (Row.new W _ _), hL.size⟩
  intro xs W hL hx hkk hg
  have e1 := hg 0 9 (by decide) (by kernel_rfl)
  have e2 := hg 6 15 (by decide) (by kernel_rfl)
  have v1 : xs 0 = .pointer (some ⟨gw, 0, none⟩) := hx 0 (by decide)
  obtain ⟨b, v2, hrd, hbB⟩ : ∃ b, xs 6 = .slice (some ⟨b, 0, none⟩) 1 1 ∧ RdV W (some ⟨b, 0, none⟩) [numV (c : Int)] ∧ w3.heap.size ≤ b := hx 6 (by decide)
  rw [v1] at e1
  rw [v2] at e2
  refine last_callP (vs := #[.pointer (some ⟨gw, 0, none⟩), .slice (some ⟨b, 0, none⟩) 1 1]) rfl (by simp only [List.map_toArray, List.map_cons, List.map_nil, e1, e2]) (enters_of Tryd.func45 (by kernel_rfl) rfl) ?_
  refine (wNumber_any gw none [] (some ⟨b, 0, none⟩) 1 1 [(c : Int)] W rfl (by decide) (by decide) hrd (fun b' o e _ => ⟨by injection e with e; injection e with e; omega, by simp⟩) (hw3.later hL)).mono ?_
  have hnw : [(c : Int)].any Wr.wrong = false := by
    simp [Wr.wrong]
    omega
  rintro e W4 (⟨h, _⟩ | ⟨_, rfl, r, hw4, hwt⟩)
  · rw [hnw] at h; cases h
  refine .inl ⟨_, rfl, ?_⟩
  have hL4 : Later w W4 := later_of_wrote (hL3.step hL) (by have := HGW.out; omega) (fun k e => by cases e) hwt
  have hk4 := hk3.later hL
  have k34 := hwt.row (k3.later hL) (by omega) (fun e => by cases e)
  have hr4 : ∀ k, r = some k → w.heap.size ≤ k ∧ k ≠ q3 ∧ w3.heap.size ≤ k := fun k e => by
    rcases hwt.2 k e with h | h
    · cases h
    · have h1 := hL.size
      have h2 := HGW.out
      exact ⟨by omega, by omega, by omega⟩
  have hnb : [] ++ Wr.nums [(c : Int)] = Wr.bytes c := by simp [Wr.nums, Wr.nb_nat]
  rw [hnb] at hw4
  have hkW4 := hwt.row hk4 (by omega) (fun e => by cases e)
  clear hx hkk hg e1 e2 v1 v2 hrd hbB hwt hnb hnw hk4 hL hL3 hw3 hk3 k3
  simp only [initL, lastL, putL, Nat.reduceAdd, Act.put, List.setIfInBounds_toArray, List.set_cons_succ, List.set_cons_zero]
  have hall := kall_any g c ix sc W4 HS.out hkW4
  have HALL := Lib.hid hall
  clear hall
  go_wp2_with (first
    | (go_at_call 20; refine HALL.out.mono ?_; rintro e w5 ⟨rfl, kA, hL5⟩)
    | fail)
  have hL05 : Later w w5 := hL4.step hL5
  have hlt4 := hw4.lt
  have hq34 := k34.lt
  have hwr5 := hw4.later hL5
  have k35 := k34.later hL5
  obtain ⟨gA, hgA⟩ : ∃ q, q = W4.heap.size := ⟨_, rfl⟩
  rw [← hgA] at kA hlt4 hq34 ⊢
  have hP5 : RawP w.heap.size gw q3 gA (Wr.bytes c) w5 := ⟨⟨r, hwr5, fun k e => ⟨(hr4 k e).1, (hr4 k e).2.1, Nat.ne_of_lt (hlt4.2 k e)⟩⟩, k35⟩
  have hseq := all2_seq gA c ix sc w5 5 (by omega) HS.out HIX.out kA
  have hwA : gw < gA := hlt4.1
  have hAlt := kA.lt
  have HSQ := Lib.hid hseq
  have HP5 := Lib.hid hP5
  clear hseq hP5 hwr5 k35 hlt4 hr4 hw4 k34 hkW4 hL4 hL5 HALL kA hgA
  refine name_frame fun T0 hT0 => ?_
  refine (wpIn_wide (n := 6)).1 ?_
  refine wpIn_range_D rfl (by omega) (gf := 49) (lb := #[.pointer (some ⟨gA, 0, none⟩)]) (by rw [hT0]; rfl) trivial (enters_of Tryd.func49 (by kernel_rfl) rfl)
    HSQ.out (fun r e => e.elim) (fun h k => h.trans k) (fun W l o ob hl ho hc => KeepR.put W l o ob ho hc) (Below.refl _ _) (fun _ => rfl)
    (fun pre W => RawP w.heap.size gw q3 gA (Wr.bytes c ++ (pre.map (·.2)).flatten) W ∧ Below w.heap.size w W) (fun c _ W => False)
    ((stab_all (fun s X Y hk h => h.keepA hk)).and (stab_below (Nat.le_refl _) hL05.size (fun r e => e.elim)))
    (fun c => stab_false _ _)
    ⟨by have := HP5.out; simpa using this, hL05⟩
    (fun pre x a' W => ∃ gt, a' = { tmps := ((T0.setIfInBounds 19 (.int .i64 x.1)).setIfInBounds 20 (.agg (hC x.2))).setIfInBounds 5 (.pointer (some ⟨gt, 0, none⟩)), defers := [] } ∧ Row W gt 23 (hC x.2))
    (fun pre x a' => stab_all (fun s X Y hk h => by obtain ⟨gt, h1, h2⟩ := h; exact ⟨gt, h1, hk.row h2⟩)) ?assign ?body ?done ?stop
  case assign =>
    intro l pre x W K hi hok hK
    obtain ⟨p, hp, hbp, hpre, hxe⟩ := hok
    have hxl : x.2.length ≤ 32 := by rw [hxe]; exact Nat.le_of_eq (HS.out p)
    obtain ⟨w9, hst, hr9, hg9⟩ := storeH (a := []) (b := x.2) (by simp) hxl (Row.new W 23 (hC []))
    have HK := Lib.hid hK
    have HI := Lib.hid hi
    have hL9 : Later W w9 := Below.grown ((Later.refl W).alloc _) hg9 (by simp only [World.size_alloc]; omega) (fun j e => by cases e; exact Nat.le_refl _)
    clear hK hi hg9 hxe hpre
    have e19 : ((#[19, 20] : Array Tmp).zip (kpE x)).foldl (fun t (p, v) => t.setIfInBounds p v) T0 = (T0.setIfInBounds 19 (.int .i64 x.1)).setIfInBounds 20 (.agg (hC x.2)) := by simp
    rw [e19, hT0]
    clear e19
    simp only [List.setIfInBounds_toArray, List.set_cons_succ, List.set_cons_zero]
    gi_wp2_with (first
      | (refine wpListIn_allocR rfl 23 rfl (allocH _) ?_)
      | (refine wpListIn_storeR rfl 23 (.tmp 5) (.tmp 20) rfl (.pointer (some ⟨W.heap.size, 0, none⟩)) (.agg (hC x.2)) rfl rfl hst ?_)
      | fail)
    exact HK.out _ _ (KeepsFrom.of_later hL9) (KeepR.later hL9) ⟨HI.out.1.later hL9, HI.out.2.trans (hL9.below.mono HI.out.2.size)⟩ ⟨W.heap.size, by rw [hT0]; rfl, hr9⟩
  case body =>
    rintro l pre x a' W hl hlo ⟨hP, hb⟩ ⟨p, hp, hbp, hpre, hxe⟩ ⟨gt, rfl, hrt⟩
    have hxl : x.2.length = 32 := by rw [hxe]; exact HS.out p
    have hpl : (Wr.bytes c ++ (pre.map (·.2)).flatten).length ≤ 1100 := by
      rw [List.length_append, hpre]
      have h1 := Wr.bytes_le c
      have h2 := Sec.items_len (c := c) (ix := ix) HS.out p
      omega
    have hnx : Wr.bytes c ++ ((pre ++ [x]).map (·.2)).flatten = (Wr.bytes c ++ (pre.map (·.2)).flatten) ++ x.2 := by simp
    obtain ⟨r, hwr, hrr⟩ := hP.ex
    have hk3 := hP.k3
    have c3 : W.cell? ⟨q3, 0, none⟩ = some (.pointer (some ⟨gw, 0, none⟩)) := (hk3.cell 0).trans rfl
    have hld := loadH hxl hrt
    have hbl := buildHs x.2 (Nat.le_of_eq hxl) W
    have hlt := hwr.lt
    have hLa := (Later.refl W).alloc (.cells (hC x.2) 23)
    generalize Wr.bytes c ++ (pre.map (·.2)).flatten = L0 at *
    have hcall := wHash_any gw r L0 (some ⟨W.heap.size, 0, none⟩) 1 1 [x.2] (W.alloc (.cells (hC x.2) 23)) rfl (by decide) (by simp [hxl]) (by omega) (RdH.new W x.2) (fun b o e _ => by
      injection e with e
      injection e with e
      have h1 := hlt.1
      exact ⟨by omega, fun h => by have := hlt.2 b h.symm; omega⟩) (hwr.later hLa)
    have HC := Lib.hid hcall
    have HNX := Lib.hid hnx
    have HRR := Lib.hid hrr
    have HLT := Lib.hid hlt
    clear hcall hnx hP hpl hrr hlt hxe hpre
    rw [hT0]
    clear hT0 HSQ HP5
    simp only [List.setIfInBounds_toArray, List.set_cons_succ, List.set_cons_zero]
    gi_wp2_with (first
      | (refine wpListIn_load rfl 80 (.tmp 3) rfl (.pointer (some ⟨q3, 0, none⟩)) rfl (loadPW c3) ?_)
      | (refine wpListIn_load rfl 23 (.tmp 5) rfl (.pointer (some ⟨gt, 0, none⟩)) rfl hld ?_)
      | (guard_target =~ wpListIn _ _ _ _ _ (_ :: _) _ _; refine wpListIn_buildSl rfl 118 1 _ rfl #[(0, .agg (hC x.2))] (by simp only [List.map_toArray, List.map_cons, List.map_nil]; rfl) hbl ?_)
      | (refine ⟨trivial, ?_⟩; gi_at_call 46; refine (CallsIn.inRound l (callsIn_wide.2 HC.out)).mono ?_; rintro e W9 ⟨rfl, r', hw', hwt⟩)
      | (refine ⟨trivial, fun _ => by omega, (CallsIn.inRound l (callsIn_wide.2 HC.out)).mono ?_⟩; rintro e W9 ⟨rfl, r', hw', hwt⟩)
      | fail)
    have hfl : [x.2].flatten = x.2 := by simp
    rw [hfl, ← HNX.out] at hw'
    have hla := hwr.later hLa
    refine ⟨(KeepsFrom.of_later hLa).trans (hla.from hwt _), ?_, ⟨⟨r', hw', fun k e => ?_⟩, ?_⟩, ?_⟩
    · exact (KeepR.later hLa).trans fun t cs hr => hwt.row hr (by omega) (fun e => (HRR.out _ e).2.2 rfl)
    · rcases hwt.2 k e with h | h
      · exact HRR.out k h
      · rw [World.size_alloc] at h
        have h1 := hk3.lt
        have h2 := hb.size
        obtain ⟨rr, hlo⟩ := hlo
        have h3 := (Array.getElem?_eq_some_iff.1 hlo).1
        exact ⟨by omega, by omega, by omega⟩
    · exact hwt.row (hk3.later hLa) (by omega) (fun e => (HRR.out _ e).2.1 rfl)
    · have hg := HGW.out
      have hb2 := hb.trans (hLa.below.mono hb.size)
      exact Same.below (((Same.of_below hb2).trans (hwt.1.mono fun j (hj : j < w.heap.size) => ⟨Nat.lt_of_lt_of_le hj hb2.size, by omega, fun e => by have := (HRR.out j e.symm).1; omega⟩)))
  case done =>
    rintro D xs W hD hS ⟨hP, hb⟩ hK
    obtain ⟨r, hwr, hrr⟩ := hP.ex
    have hk3 := hP.k3
    have c3 : W.cell? ⟨q3, 0, none⟩ = some (.pointer (some ⟨gw, 0, none⟩)) := (hk3.cell 0).trans rfl
    have hS' : xs = Sec.items c ix sc 32 := hS
    subst hS'
    have hall := wall_any gw r _ W (by
      rw [List.length_append]
      have h1 := Wr.bytes_le c
      have h2 := Sec.items_len (c := c) (ix := ix) HS.out 32
      omega) hwr
    have hraw : Wr.bytes c ++ ((Sec.items c ix sc 32).map (·.2)).flatten = Sec.raw c ix sc := rfl
    rw [hraw] at hall
    obtain ⟨L1, hL1⟩ : ∃ q, Sec.raw c ix sc = q := ⟨_, rfl⟩
    rw [hL1] at hall
    have HR := Lib.hid hL1
    have HALL := Lib.hid hall
    have hbs := hb.size
    have hD2 : w.heap.size ≤ D := Nat.le_trans hL05.size hD
    rw [hT0]
    clear hT0 HSQ HP5 hP hwr hall hrr hS hL1 hraw
    go_wp2_with (first
      | (guard_target =~ wpList _ _ _ (_ :: _) _ _; refine wpList_load rfl 80 (.tmp 3) rfl (.pointer (some ⟨q3, 0, none⟩)) rfl (loadPW c3) ?_)
      | (go_at_call 47; refine HALL.out.mono ?_; rintro e W9 ⟨v, rfl, hown, hL9⟩)
      | fail)
    have hK9 : W9.heap[D]? = some (.deferred (some [])) := (Below.block hL9 D (Array.getElem?_eq_some_iff.1 hK).1).trans hK
    refine ⟨by simp, .inl ⟨_, _, rfl, run_takeDeferred hK9, ?_⟩⟩
    refine ⟨_, results_tmp rfl _ _ _, ?_⟩
    have hbW : Below w.heap.size w W9 := hb.trans (hL9.below.mono hbs)
    have hDn : v.ownBlock ≠ some D := fun e => by
      have := (hown.at_ D e).1
      have h2 := (Array.getElem?_eq_some_iff.1 hK).1
      omega
    exact ⟨v, rfl, by rw [HR.out]; exact Own.keep (w' := _) (hown.mono (b' := w.heap.size) hbs) (fun b _ e => World.putObj_heap_other (by intro e2; subst e2; exact hDn e)), hbW.trans (belowK_b (w := w) (Nat.le_refl _) W9 D _ _ hD2 hK9 rfl rfl)⟩
  case stop =>
    rintro D c' pre W hD hSp h hK
    exact h.elim
end Go.Proofs.YthabgfghogdkcaaDoor
