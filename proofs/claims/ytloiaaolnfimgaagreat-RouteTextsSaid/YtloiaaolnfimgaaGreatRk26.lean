/- Walks, route: the document's Text. -/
import Derived.Test.YtloiaaolnfimgaaGreatRk26t
import Derived.Test.YtloiaaolnfimgaaGreatRyv
set_option linter.unusedVariables false
set_option linter.unusedSimpArgs false
namespace Go.Proofs.YtloiaaolnfimgaaGreat
open Go.RowKit Rt
/-- What stays while bytes grow. -/
structure GB (w : World) (base g : Nat) (T0 : TypeId) (cs : Array Value) (W : World) : Prop where
  low : Below base w W
  src : Row W g T0 cs
  sz : base ≤ W.heap.size
  lt : g < base
theorem GB.later {w W W' : World} {base g : Nat} {T0 : TypeId} {cs : Array Value} (h : GB w base g T0 cs W) (hL : Later W W') : GB w base g T0 cs W' := ⟨h.low.trans (hL.below.mono h.sz), h.src.later hL, Nat.le_trans h.sz hL.size, h.lt⟩
theorem GB.put {w W W' : World} {base g : Nat} {T0 : TypeId} {cs : Array Value} {v : Value} {l : List UInt8} (h : GB w base g T0 cs W) (hown : Own 5 W base v l) (hg : W.grownBy W' v.ownBlock) : GB w base g T0 cs W' :=
  have hb : Below base W W' := (Below.refl base _).grown hg h.sz (fun q e => (hown.at_ q e).1)
  ⟨h.low.trans hb, h.src.below hb h.lt, Nat.le_trans h.sz hb.size, h.lt⟩
/-- Two numbers' bytes, appended one behind the other. -/
def NApp (w : World) (base g : Nat) (T0 : TypeId) (cs : Array Value) (v0 : Value) (l0 p1 p2 : List UInt8) : List Value → World → Prop
  | [], W => GB w base g T0 cs W ∧ Own 5 W base v0 l0
  | [n1], W => GB w base g T0 cs W ∧ Own 5 W base v0 l0 ∧ ∃ A c, n1 = .slice A p1.length c ∧ Rd W A p1
  | [_, v1], W => GB w base g T0 cs W ∧ Own 5 W base v1 (l0 ++ p1)
  | [_, v1, n2], W => GB w base g T0 cs W ∧ Own 5 W base v1 (l0 ++ p1) ∧ ∃ A c, n2 = .slice A p2.length c ∧ Rd W A p2
  | [_, _, _, v2], W => GB w base g T0 cs W ∧ Own 5 W base v2 (l0 ++ p1 ++ p2)
  | _, _ => False
section
variable {w W W' : World} {base g : Nat} {T0 : TypeId} {cs : Array Value} {v0 : Value} {l0 p1 p2 : List UInt8} {rs : List Value}
theorem NApp.later (h : NApp w base g T0 cs v0 l0 p1 p2 rs W) (hL : Later W W') : NApp w base g T0 cs v0 l0 p1 p2 rs W' := by
  rcases rs with _ | ⟨a, _ | ⟨b, _ | ⟨c, _ | ⟨d, _ | ⟨e, rs⟩⟩⟩⟩⟩
  · exact ⟨h.1.later hL, h.2.later hL⟩
  · obtain ⟨h1, h2, A, c, h3, h4⟩ := h
    exact ⟨h1.later hL, h2.later hL, A, c, h3, h4.later hL⟩
  · exact ⟨h.1.later hL, h.2.later hL⟩
  · obtain ⟨h1, h2, A, c, h3, h4⟩ := h
    exact ⟨h1.later hL, h2.later hL, A, c, h3, h4.later hL⟩
  · exact ⟨h.1.later hL, h.2.later hL⟩
  · exact h
theorem NApp.gb (h : NApp w base g T0 cs v0 l0 p1 p2 rs W) : GB w base g T0 cs W := by
  rcases rs with _ | ⟨a, _ | ⟨b, _ | ⟨c, _ | ⟨d, _ | ⟨e, rs⟩⟩⟩⟩⟩
  · exact h.1
  · exact h.1
  · exact h.1
  · exact h.1
  · exact h.1
  · exact h.elim
theorem len1 {rs : List Value} (h : rs.length = 1) : ∃ a, rs = [a] := List.length_eq_one_iff.1 h
theorem len2 {rs : List Value} (h : rs.length = 2) : ∃ a b, rs = [a, b] := by
  rcases rs with _ | ⟨a, _ | ⟨b, _ | ⟨c, rs⟩⟩⟩ <;> simp at h
  exact ⟨a, b, rfl⟩
theorem len3 {rs : List Value} (h : rs.length = 3) : ∃ a b c, rs = [a, b, c] := by
  rcases rs with _ | ⟨a, _ | ⟨b, _ | ⟨c, _ | ⟨d, rs⟩⟩⟩⟩ <;> simp at h
  exact ⟨a, b, c, rfl⟩
theorem NApp.num0 (h : NApp w base g T0 cs v0 l0 p1 p2 rs W) (hlen : rs.length = 0) {v : Value} (ho : Own 5 W' W.heap.size v p1) (hL : Later W W') : NApp w base g T0 cs v0 l0 p1 p2 (rs ++ [v]) W' := by
  obtain rfl := List.eq_nil_of_length_eq_zero hlen
  obtain ⟨A, c, h1, _, _, h2⟩ := ho.slice
  exact ⟨h.1.later hL, h.2.later hL, A, c, h1, h2⟩
theorem NApp.num2 (h : NApp w base g T0 cs v0 l0 p1 p2 rs W) (hlen : rs.length = 2) {v : Value} (ho : Own 5 W' W.heap.size v p2) (hL : Later W W') : NApp w base g T0 cs v0 l0 p1 p2 (rs ++ [v]) W' := by
  obtain ⟨a, b, rfl⟩ := len2 hlen
  obtain ⟨A, c, h1, _, _, h2⟩ := ho.slice
  exact ⟨h.1.later hL, h.2.later hL, A, c, h1, h2⟩
theorem NApp.at1 (h : NApp w base g T0 cs v0 l0 p1 p2 rs W) (hlen : rs.length = 1) : ∃ n1 A c, rs = [n1] ∧ GB w base g T0 cs W ∧ Own 5 W base v0 l0 ∧ n1 = .slice A p1.length c ∧ Rd W A p1 := by
  obtain ⟨a, rfl⟩ := len1 hlen
  obtain ⟨h1, h2, A, c, h3, h4⟩ := h
  exact ⟨a, A, c, rfl, h1, h2, h3, h4⟩
theorem NApp.at3 (h : NApp w base g T0 cs v0 l0 p1 p2 rs W) (hlen : rs.length = 3) : ∃ n0 v1 n1 A c, rs = [n0, v1, n1] ∧ GB w base g T0 cs W ∧ Own 5 W base v1 (l0 ++ p1) ∧ n1 = .slice A p2.length c ∧ Rd W A p2 := by
  obtain ⟨a, b, d, rfl⟩ := len3 hlen
  obtain ⟨h1, h2, A, c, h3, h4⟩ := h
  exact ⟨a, b, d, A, c, rfl, h1, h2, h3, h4⟩
theorem NApp.put1 (h : NApp w base g T0 cs v0 l0 p1 p2 rs W) (hlen : rs.length = 1) {v u : Value} {k : List UInt8} (ho : Own 5 W' base v (l0 ++ p1)) (hgb : GB w base g T0 cs W) (hg : W.grownBy W' u.ownBlock) (hown : Own 5 W base u k) : NApp w base g T0 cs v0 l0 p1 p2 (rs ++ [v]) W' := by
  obtain ⟨a, rfl⟩ := len1 hlen
  exact ⟨hgb.put hown hg, ho⟩
theorem NApp.put3 (h : NApp w base g T0 cs v0 l0 p1 p2 rs W) (hlen : rs.length = 3) {v u : Value} {k : List UInt8} (ho : Own 5 W' base v (l0 ++ p1 ++ p2)) (hgb : GB w base g T0 cs W) (hg : W.grownBy W' u.ownBlock) (hown : Own 5 W base u k) : NApp w base g T0 cs v0 l0 p1 p2 (rs ++ [v]) W' := by
  obtain ⟨a, b, c, rfl⟩ := len3 hlen
  exact ⟨hgb.put hown hg, ho⟩
theorem NApp.fin {a b c d : Value} (h : NApp w base g T0 cs v0 l0 p1 p2 [a, b, c, d] W) : GB w base g T0 cs W ∧ Own 5 W base d (l0 ++ p1 ++ p2) := h
end
theorem sliceHashO {g o : Nat} (W : World) : (Instr.sliceAt 25 (.pointer (some ⟨g, o, none⟩)) none none none).run Tryz.prog W = .ok (.slice (some ⟨g, o, none⟩) 32 32) W := by
  obtain ⟨i, hi0, hz, hs, hb⟩ := info_parts info5
  simp [Instr.sliceAt, run_underlying Tryz.underlying25, sizeOf, typeInfo, hi0, hs, go_sem]
theorem rd_key {w : World} {g : Nat} {t : TypeId} {h : Hop} (hw : h.wf) (hr : Row w g t (hopC h)) : Rd w (some ⟨g, 0, none⟩) h.key := fun _ =>
  ⟨g, 0, rfl, fun i hi => by
    have hi32 : i < 32 := by have := hw.1; omega
    rw [Nat.zero_add]
    exact (hr.cell i).trans ((hopC_key hw i hi32).trans (hC_get h.key i hi (Nat.le_of_eq hw.1)))⟩
theorem rd_next {w : World} {g : Nat} {t : TypeId} {h : Hop} (hw : h.wf) (hr : Row w g t (hopC h)) : Rd w (some ⟨g, 32, none⟩) h.next := fun _ =>
  ⟨g, 32, rfl, fun i hi => by
    have hi32 : i < 32 := by have := hw.2; omega
    exact (hr.cell (32 + i)).trans ((hopC_next hw i hi32).trans (hC_get h.next i hi (Nat.le_of_eq hw.2)))⟩
theorem run_void2 (W : World) : (Instr.buildSlice 60 0 #[]).run Tryz.prog W = .ok (.slice (some ⟨W.heap.size, 0, none⟩) 0 0) (W.alloc (.cells #[] 5)) := by kernel_rfl
theorem own_void {W : World} {base : Nat} (hb : base ≤ W.heap.size) : Own 5 (W.alloc (.cells #[] 5)) base (.slice (some ⟨W.heap.size, 0, none⟩) 0 0) [] :=
  ⟨rfl, .inr ⟨W.heap.size, 0, #[], rfl, hb, heap_alloc_new W _, Nat.le_refl _, by decide, rfl, rfl⟩⟩
def HApp (w : World) (base g : Nat) (T0 : TypeId) (cs : Array Value) (p1 p2 : List UInt8) : List Value → World → Prop
  | [], W => GB w base g T0 cs W
  | [v0], W => GB w base g T0 cs W ∧ Own 5 W base v0 []
  | [_, v1], W => GB w base g T0 cs W ∧ Own 5 W base v1 p1
  | [_, _, v2], W => GB w base g T0 cs W ∧ Own 5 W base v2 (p1 ++ p2)
  | _, _ => False
section
variable {w W W' : World} {base g : Nat} {T0 : TypeId} {cs : Array Value} {p1 p2 : List UInt8} {rs : List Value}
theorem HApp.later (h : HApp w base g T0 cs p1 p2 rs W) (hL : Later W W') : HApp w base g T0 cs p1 p2 rs W' := by
  rcases rs with _ | ⟨a, _ | ⟨b, _ | ⟨c, _ | ⟨d, rs⟩⟩⟩⟩
  · exact GB.later h hL
  · exact ⟨h.1.later hL, h.2.later hL⟩
  · exact ⟨h.1.later hL, h.2.later hL⟩
  · exact ⟨h.1.later hL, h.2.later hL⟩
  · exact h
end
set_option maxRecDepth 100000 in
set_option maxHeartbeats 4000000 in
theorem refText_main (h : Hop) (hwf : h.wf) (w : World) : Calls Tryz.prog 17 #[.agg (hopC h)] w fun e w' => e = .returned (.tuple #[.string ⟨(Rt.text h).1.toArray⟩, .int .i64 (Rt.text h).2]) ∧ Below w.heap.size w w' := by
  refine Calls.post fun Φ HΦ => ?_
  have hbx := boxInv hwf w
  have hr := Row.new w 51 (hopC h)
  have hld := loadInv hwf hr
  have hL : Later w (w.alloc (.cells (hopC h) 51)) := below_new w _
  have h1 := fun W => refinvoice_any h hwf W
  have HL := Lib.hid hL
  cases hok : okInv h with
  | false =>
    have ht : Rt.text h = ([], 2) := by unfold Rt.text; rw [hok]; rfl
    rw [ht] at HΦ
    simp only [hok] at h1
    clear hr hL hok ht
    go_enter Tryz.func17, Tryz.ntmps17
    go_wp2_with (first
      | (guard_target =~ wpList _ _ _ (_ :: _) _ _; refine wpList_box rfl 51 (.tmp 0) rfl (.agg (hopC h)) rfl hbx ?_)
      | (guard_target =~ wpList _ _ _ (_ :: _) _ _; refine wpList_load rfl 51 (.tmp 1) rfl (.pointer (some ⟨w.heap.size, 0, none⟩)) rfl hld ?_)
      | (go_at_call 62; refine (h1 _).mono ?_; rintro e w7 ⟨rfl, hL7⟩)
      | fail)
    exact HΦ.out _ _ ⟨rfl, (HL.out.step hL7).below⟩
  | true =>
    have ht : Rt.text h = (markL ++ textOf (sealB (rawInv h)), 0) := by unfold Rt.text; rw [hok]; rfl
    rw [ht] at HΦ
    have HOK := Lib.hid hok
    simp only [hok] at h1
    have hlt := hr.lt
    clear hL hok ht
    go_enter Tryz.func17, Tryz.ntmps17
    go_upto_region 3 with (first
      | (guard_target =~ wpList _ _ _ (_ :: _) _ _; refine wpList_box rfl 51 (.tmp 0) rfl (.agg (hopC h)) rfl hbx ?_)
      | (guard_target =~ wpList _ _ _ (_ :: _) _ _; refine wpList_load rfl 51 (.tmp 1) rfl (.pointer (some ⟨w.heap.size, 0, none⟩)) rfl hld ?_)
      | (go_at_call 62; refine (h1 _).mono ?_; rintro e w2 ⟨rfl, hL2⟩)
      | fail)
    obtain ⟨g, hg⟩ : ∃ g, g = w.heap.size := ⟨_, rfl⟩
    have hsz1 : (w.alloc (.cells (hopC h) 51)).heap.size = g + 1 := by rw [hg]; simp
    rw [← hg] at hr hld hlt ⊢
    have HG := Lib.hid hg
    clear hbx hg
    generalize w.alloc (.cells (hopC h) 51) = w1 at *
    have hGB : GB w1 (g + 1) g 51 (hopC h) w2 := ⟨hL2.below.mono hlt, hr.later hL2, Nat.le_trans hlt hL2.size, Nat.lt_succ_self g⟩
    clear hL2 hr hld h1 hsz1 hlt
    rename_i K hK
    have HK := Lib.hid hK
    clear hK
    refine (wpIn_wide (n := 0)).1 ?_
    refine wpIn_region_cv wide_wide [undef, .pointer (some ⟨g, 0, none⟩), .slice (some ⟨g, 0, none⟩) 32 32, undef, .pointer (some ⟨g, 32, none⟩), .slice (some ⟨g, 32, none⟩) 32 32, undef] [0, 3, 6] (HApp w1 (g + 1) g 51 (hopC h) h.key h.next) (fun rs W W' hL h => HApp.later h hL) hGB (by kernel_rfl) (by kernel_rfl) (by kernel_rfl) (by kernel_rfl) (by kernel_rfl) (by kernel_rfl) rfl (by decide) (by kernel_rfl) ⟨?_, ?_, ?_, ?_, ?_, ?_, ?_, trivial⟩ ?_
    · refine cvStep_put (k := 0) (by decide) (.inl rfl) (fun ac W rs hlen he hA => ⟨rfl, ?_⟩)
      obtain rfl := List.eq_nil_of_length_eq_zero hlen
      refine Oper.wp_mono ?_ (op_buildSlice (R := fun v W' => v = .slice (some ⟨W.heap.size, 0, none⟩) 0 0 ∧ W' = W.alloc (.cells #[] 5)) (vs := #[]) rfl (by simp only [List.map_toArray, List.map_nil]) (run_void2 W) (below_new W _) ⟨rfl, rfl⟩)
      rintro a' W' ⟨v, h1, h2, rfl, rfl⟩
      exact ⟨_, h1, GB.later hA h2, own_void (GB.sz hA)⟩
    · exact cvStep_val (by decide) (fun ac W rs he hA => stepOk_want rfl (op_fieldAddr rfl (he.keep (.tmp 1) (by kernel_rfl)) fInv0 rfl))
    · exact cvStep_val (by decide) (fun ac W rs he hA => stepOk_want rfl (op_slice (W' := W) rfl (show ac.eval (.tmp 12) = .pointer (some ⟨g, 0, none⟩) from he.val 1 12 (by kernel_rfl) rfl (by decide)) (rfl : _ = none) (rfl : _ = none) rfl (sliceHashO W) rfl))
    · refine cvStep_put (k := 1) (by decide) (.inr (by kernel_rfl)) (fun ac W rs hlen he hA => ⟨rfl, ?_⟩)
      obtain ⟨v0, rfl⟩ := len1 hlen
      have e0 : ac.eval (.tmp 11) = v0 := he.res 0 11 (by decide) (by kernel_rfl) rfl
      have e1 : ac.eval (.tmp 13) = .slice (some ⟨g, 0, none⟩) 32 32 := he.val 2 13 (by kernel_rfl) rfl (by decide)
      exact op_append_bytes _ _ 60 rfl (g + 1) 5 Tryz.underlying60 byteInfo _ _ e0 hA.2 _ 32 32 _ e1 hwf.1 (rd_key hwf hA.1.src) (by decide) hA.1.sz (fun v' w' ho hg _ => ⟨v', rfl, hA.1.put hA.2 hg, ho⟩)
    · exact cvStep_val (by decide) (fun ac W rs he hA => stepOk_want rfl (op_fieldAddr rfl (he.keep (.tmp 1) (by kernel_rfl)) fInv1 rfl))
    · exact cvStep_val (by decide) (fun ac W rs he hA => stepOk_want rfl (op_slice (W' := W) rfl (show ac.eval (.tmp 15) = .pointer (some ⟨g, 32, none⟩) from he.val 4 15 (by kernel_rfl) rfl (by decide)) (rfl : _ = none) (rfl : _ = none) rfl (sliceHashO W) rfl))
    · refine cvStep_put (k := 2) (by decide) (.inr (by kernel_rfl)) (fun ac W rs hlen he hA => ⟨rfl, ?_⟩)
      obtain ⟨v0, v1, rfl⟩ := len2 hlen
      have e0 : ac.eval (.tmp 14) = v1 := he.res 1 14 (by decide) (by kernel_rfl) rfl
      have e1 : ac.eval (.tmp 16) = .slice (some ⟨g, 32, none⟩) 32 32 := he.val 5 16 (by kernel_rfl) rfl (by decide)
      exact op_append_bytes _ _ 60 rfl (g + 1) 5 Tryz.underlying60 byteInfo _ _ e0 hA.2 _ 32 32 _ e1 hwf.2 (rd_next hwf hA.1.src) (by rw [hwf.1]; decide) hA.1.sz (fun v' w' ho hg _ => ⟨v', rfl, hA.1.put hA.2 hg, ho⟩)
    intro xs W3 hA hx hk2 hgt
    have hA3 : GB w1 (g + 1) g 51 (hopC h) W3 ∧ Own 5 W3 (g + 1) (xs 6) (h.key ++ h.next) := hA
    refine last_assign rfl (hgt 6 17 (by decide) (by kernel_rfl)) ?_
    obtain ⟨hGB3, hown3⟩ := hA3
    clear hx hk2 hgt hA hGB
    simp only [initL, lastL, putL, Nat.reduceAdd, Act.put, List.setIfInBounds_toArray, List.set_cons_succ, List.set_cons_zero]
    obtain ⟨v0, hv0⟩ : ∃ v, xs 6 = v := ⟨_, rfl⟩
    obtain ⟨l0, hl00⟩ : ∃ l, h.key ++ h.next = l := ⟨_, rfl⟩
    have hl0 : l0.length = 64 := by rw [← hl00]; simp [hwf.1, hwf.2]
    rw [hv0] at hown3 ⊢
    rw [hl00] at hown3
    have HL0 := Lib.hid hl00
    clear hv0 hl00
    refine HK.out _ _ ?_
    clear HK
    have hoi := HOK.out
    unfold okInv at hoi
    simp only [Bool.and_eq_true, decide_eq_true_eq] at hoi
    have hna : ∀ W, Calls Tryz.prog 63 #[.int .i64 h.amt] W fun e w' => ∃ v', e = .returned v' ∧ Own 5 w' W.heap.size v' (Wr.nb h.amt) ∧ Later W w' := fun W => by
      have h1 := refNumber_any h.amt.toNat W (by omega)
      rwa [← Wr.nb_nat, Int.toNat_of_nonneg (by omega)] at h1
    have hnx : ∀ W, Calls Tryz.prog 63 #[.int .i64 h.exp] W fun e w' => ∃ v', e = .returned v' ∧ Own 5 w' W.heap.size v' (Wr.nb h.exp) ∧ Later W w' := fun W => by
      have h1 := refNumber_any h.exp.toNat W (by omega)
      rwa [← Wr.nb_nat, Int.toNat_of_nonneg (by omega)] at h1
    clear hoi
    go_upto_region 4 with fail
    rename_i K hK
    have HK := Lib.hid hK
    clear hK
    refine (wpIn_wide (n := 0)).1 ?_
    refine wpIn_region_cv wide_wide [v0, .pointer (some ⟨g, 64, none⟩), .int .i64 h.amt, undef, undef, .pointer (some ⟨g, 65, none⟩), .int .i64 h.exp, undef, undef] [3, 4, 7, 8] (NApp w1 (g + 1) g 51 (hopC h) v0 l0 (Wr.nb h.amt) (Wr.nb h.exp)) (fun rs W W' hL h => NApp.later h hL) ⟨hGB3, hown3⟩ (by kernel_rfl) (by kernel_rfl) (by kernel_rfl) (by kernel_rfl) (by kernel_rfl) (by kernel_rfl) rfl (by decide) (by kernel_rfl) ⟨?_, ?_, ?_, ?_, ?_, ?_, ?_, ?_, ?_, trivial⟩ ?_
    · exact cvStep_val (by decide) (fun ac W rs he hA => stepOk_want rfl (op_move rfl (he.keep (.tmp 4) (by kernel_rfl))))
    · exact cvStep_val (by decide) (fun ac W rs he hA => stepOk_want rfl (op_fieldAddr rfl (he.keep (.tmp 1) (by kernel_rfl)) fInv2 rfl))
    · exact cvStep_val (by decide) (fun ac W rs he hA => stepOk_want rfl (op_load rfl (show ac.eval (.tmp 19) = .pointer (some ⟨g, 64, none⟩) from he.val 1 19 (by kernel_rfl) rfl (by decide)) (ldI64 (cHop2 hwf (NApp.gb hA).src)) rfl))
    · refine cvStep_put (k := 0) (by decide) (.inl rfl) (fun ac W rs hlen he hA => ⟨rfl, ?_⟩)
      have e1 : ac.eval (.tmp 20) = .int .i64 h.amt := he.val 2 20 (by kernel_rfl) rfl (by decide)
      refine op_callFK (vs := #[.int .i64 h.amt]) rfl (by simp only [List.map_toArray, List.map_cons, List.map_nil, e1]) (enters_of Tryz.func63 (by kernel_rfl) rfl) ((hna W).mono fun e W' ⟨v, he', ho, hL⟩ => ⟨v, he', v, rfl, ?_⟩)
      exact NApp.num0 hA hlen ho hL
    · refine cvStep_put (k := 1) (by decide) (.inr (by kernel_rfl)) (fun ac W rs hlen he hA => ⟨rfl, ?_⟩)
      obtain ⟨n1, A1, c1, hrs, hgb, hown, hn1, hrd⟩ := NApp.at1 hA hlen
      have e0 : ac.eval (.tmp 18) = v0 := he.val 0 18 (by kernel_rfl) rfl (by decide)
      have e1 : ac.eval (.tmp 21) = .slice A1 _ c1 := (he.res 0 21 (by decide) (by kernel_rfl) rfl).trans (by rw [hrs]; exact hn1)
      exact op_append_bytes _ _ 60 rfl (g + 1) 5 Tryz.underlying60 byteInfo _ _ e0 hown A1 _ c1 _ e1 rfl hrd (by have := Wr.nb_le h.amt; omega) hgb.sz (fun v' w' ho hg _ => ⟨v', rfl, NApp.put1 hA hlen ho hgb hg hown⟩)
    · exact cvStep_val (by decide) (fun ac W rs he hA => stepOk_want rfl (op_fieldAddr rfl (he.keep (.tmp 1) (by kernel_rfl)) fInv3 rfl))
    · exact cvStep_val (by decide) (fun ac W rs he hA => stepOk_want rfl (op_load rfl (show ac.eval (.tmp 23) = .pointer (some ⟨g, 65, none⟩) from he.val 5 23 (by kernel_rfl) rfl (by decide)) (ldI64 (cHop3 hwf (NApp.gb hA).src)) rfl))
    · refine cvStep_put (k := 2) (by decide) (.inr (by kernel_rfl)) (fun ac W rs hlen he hA => ⟨rfl, ?_⟩)
      have e1 : ac.eval (.tmp 24) = .int .i64 h.exp := he.val 6 24 (by kernel_rfl) rfl (by decide)
      refine op_callFK (vs := #[.int .i64 h.exp]) rfl (by simp only [List.map_toArray, List.map_cons, List.map_nil, e1]) (enters_of Tryz.func63 (by kernel_rfl) rfl) ((hnx W).mono fun e W' ⟨v, he', ho, hL⟩ => ⟨v, he', v, rfl, ?_⟩)
      exact NApp.num2 hA hlen ho hL
    · refine cvStep_put (k := 3) (by decide) (.inr (by kernel_rfl)) (fun ac W rs hlen he hA => ⟨rfl, ?_⟩)
      obtain ⟨n0, v1, n1, A1, c1, hrs, hgb, hown, hn1, hrd⟩ := NApp.at3 hA hlen
      have e0 : ac.eval (.tmp 22) = v1 := (he.res 1 22 (by decide) (by kernel_rfl) rfl).trans (by rw [hrs]; rfl)
      have e1 : ac.eval (.tmp 25) = .slice A1 _ c1 := (he.res 2 25 (by decide) (by kernel_rfl) rfl).trans (by rw [hrs]; exact hn1)
      exact op_append_bytes _ _ 60 rfl (g + 1) 5 Tryz.underlying60 byteInfo _ _ e0 hown A1 _ c1 _ e1 rfl hrd (by have := Wr.nb_le h.amt; have := Wr.nb_le h.exp; rw [List.length_append]; omega) hgb.sz (fun v' w' ho hg _ => ⟨v', rfl, NApp.put3 hA hlen ho hgb hg hown⟩)
    intro xs W hA hx hk2 hgt
    obtain ⟨hgb4, hown4⟩ := NApp.fin hA
    refine last_assign rfl (hgt 8 26 (by decide) (by kernel_rfl)) ?_
    clear hx hk2 hgt hA
    simp only [initL, lastL, putL, Nat.reduceAdd, Act.put, List.setIfInBounds_toArray, List.set_cons_succ, List.set_cons_zero]
    have hraw : l0 ++ Wr.nb h.amt ++ Wr.nb h.exp = rawInv h := by rw [← HL0.out]; unfold rawInv; simp
    rw [hraw] at hown4
    obtain ⟨A4, c4, e4, -, -, hrd4⟩ := hown4.slice
    rw [e4]
    have hrl : (rawInv h).length ≤ 100 := by
      have := Wr.nb_le h.amt
      have := Wr.nb_le h.exp
      rw [← hraw, List.length_append, List.length_append, hl0]
      omega
    have hsl := refSeal_any A4 (rawInv h).length c4 (rawInv h) W rfl (by omega) hrd4
    have hlow := hgb4.low
    have hsz4 := hgb4.sz
    clear hgb4 hown4 e4 hrd4 hna hnx hGB3 hown3
    refine HK.out _ _ ?_
    clear HK
    go_upto_region 5 with fail
    rename_i K hK
    have HK := Lib.hid hK
    clear hK
    go_wp2_with (first
      | (go_at_call 64; refine hsl.mono ?_; clear hsl; rintro e w9 ⟨v9, rfl, hown9, hb9⟩)
      | fail)
    have hne9 : sealB (rawInv h) ≠ [] := by
      intro e
      have := congrArg List.length e
      unfold sealB low4 at this
      simp at this
    have hown9 : Own 5 w9 W.heap.size v9 (sealB (rawInv h)) := hown9
    obtain ⟨g9, c9, rfl, -, hlc9, -, hrd9⟩ := hown9.form hne9
    have hsl9 : (sealB (rawInv h)).length ≤ 1000 := by
      unfold sealB low4
      rw [List.length_append]
      simp
      omega
    have hL9 : Below w.heap.size w w9 := by
      have h1 := HL.out
      have hg := HG.out
      have h2 : Below w.heap.size w1 w9 := (hlow.trans (hb9.mono hsz4)).mono (by omega)
      exact h1.below.trans h2
    refine HK.out _ _ (refText_tail _ (by kernel_rfl) w _ g9 _ c9 (sealB (rawInv h)) rfl hsl9 hrd9 hL9 _ (fun a' W' hd6 h2 h3 LR => ?_) _ _ _ _ _ _ _ _ _ _ _ _ _ _ _ _ _ _ _ _ _ _ _ _ _ _ _ _ _ _ _ _ _ _ _ _ _ _ _ _ _ _ _ _ _ _ _ _ _ _ _ _ _ _ _ _ _ _ _ _ _ _ _ _)
    exact bodyPost_ret (by rw [results_tmp2 rfl a'.tmps, h2, h3]) hd6 (HΦ.out _ _ ⟨rfl, LR⟩)
end Go.Proofs.YtloiaaolnfimgaaGreat
