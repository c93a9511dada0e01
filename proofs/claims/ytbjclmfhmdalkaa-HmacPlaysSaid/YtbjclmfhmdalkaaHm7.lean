/- Walks: lists joined; a key's tags are gone over. -/
import Derived.Test.YtbjclmfhmdalkaaHm6
import Derived.Test.YtbjclmfhmdalkaaRangeD
set_option linter.unusedVariables false
set_option linter.unusedSimpArgs false
namespace Go.Proofs.Ytbjclmfhmdalkaa
open Go.RowKit
set_option maxRecDepth 100000 in
set_option maxHeartbeats 1000000 in
theorem joined_any (B : Option Addr) (m cb : Nat) (ls : List (List UInt8)) (w : World) (hls : ls.length = m) (hmm : m ≤ 1000000) (hmax : ls.flatten.length ≤ 100000000) (hrs : RdsC w B ls) :
    Calls Try.prog 28 #[.slice B m cb] w fun e w' => ∃ v, e = .returned v ∧ Own 5 w' w.heap.size v ls.flatten ∧ Below w.heap.size w w' := by
  subst hls
  have HMAX := Lib.hid hmax
  have HR := Lib.hid hrs
  clear hmax hrs
  go_enter Try.func28, Try.ntmps28
  go_wp2_with fail
  go_loopw [2, 7] (fun v t wr => ∃ k : Nat, k ≤ ls.length ∧ t = .int .i64 k ∧ Own 5 wr w.heap.size v (ls.take k).flatten ∧ Below w.heap.size w wr) (fun _ t _ => ls.length - (intOf t).toNat)
  case atStart => exact ⟨0, by omega, rfl, Own.nil _ _ _, Below.refl _ _⟩
  case round =>
    obtain ⟨k, hk, rfl, hown, hb⟩ := hrel
    have hbs := hb.size
    by_cases hlt : k < ls.length
    · obtain ⟨b, o, Ai, ci, rfl, hc1, hci, hcim, hrd1⟩ := HR.out.at_ hlt
      have hc : wr.cell? ⟨b, o + k, none⟩ = some (.slice Ai ls[k].length ci) := (hb.cell (p := ⟨b, o + k, none⟩) (block_lt_of_cell hc1)).trans hc1
      have hrd := hrd1.below hb
      have hnext : (ls.take (k + 1)).flatten = (ls.take k).flatten ++ ls[k] := by
        rw [List.take_succ_eq_append_getElem hlt, List.flatten_append]; simp
      have hpl : (ls.take k).flatten.length + ls[k].length ≤ 100000000 := by
        have := take_flat ls (k + 1)
        have h2 := HMAX.out
        rw [hnext, List.length_append] at this
        omega
      have HN := Lib.hid hnext
      clear hnext hc1 hrd1
      generalize (ls.take k).flatten = z at *
      generalize ls[k] = l at *
      go_wp2_with (first
        | (at_builtin; refine wpList_append_bytes rfl (.tmp 11) (.tmp 12) 22 rfl w.heap.size 5 Try.underlying22 byteInfo8 _ z rfl hown Ai l.length ci l rfl rfl hrd (by omega) hbs ?_; intro v2 w2 hown2 hg2 hat2)
        | fail)
      go_roundw
      case rel => exact ⟨k + 1, by omega, by go_num, by rw [HN.out]; exact hown2, hb.grown hg2 hbs (fun j e => (hown.at_ j e).1)⟩
      case measure => simp [intOf]; omega
    · obtain rfl : k = ls.length := by omega
      rw [List.take_length] at hown
      go_wp2_with fail
      go_ret
      exact ⟨_, rfl, hown, hb⟩
theorem tags_any (A : Option Addr) (n ca : Nat) (name : ByteArray) (w : World) :
    Calls Try.prog 27 #[.slice A n ca, .string name] w fun e w' => ∃ gk gs, e = .returned (.func (.func 41) #[] #[.pointer (some ⟨gk, 0, none⟩), .pointer (some ⟨gs, 0, none⟩)]) ∧ w'.cell? ⟨gk, 0, none⟩ = some (.slice A n ca) ∧ w'.cell? ⟨gs, 0, none⟩ = some (.string name) ∧ w.heap.size ≤ gk ∧ w.heap.size ≤ gs ∧ Later w w' := by
  go_enter Try.func27, Try.ntmps27
  go_wp2
  go_ret
  exact ⟨_, _, rfl, (((Row.new w 22 #[.slice A n ca]).alloc _).cell 0).trans rfl, ((show Row ((w.alloc (.cells #[.slice A n ca] 22)).alloc (.cells #[.string name] 9)) (w.heap.size + 1) 9 #[.string name] from Row.newAt (by simp only [World.size_alloc])).cell 0).trans rfl, Nat.le_refl _, by omega, ((Later.refl w).alloc _).alloc _⟩
/-- All cells stay but one block's. -/
structure KeepC (g : Nat) (X Y : World) : Prop where
  size : X.heap.size ≤ Y.heap.size
  same : ∀ b cs t fr, b ≠ g → X.heap[b]? = some (.cells cs t fr) → Y.heap[b]? = X.heap[b]?
theorem KeepC.refl (g : Nat) (X : World) : KeepC g X X := ⟨Nat.le_refl _, fun _ _ _ _ _ _ => rfl⟩
theorem KeepC.trans {g : Nat} {X Y Z : World} (h : KeepC g X Y) (k : KeepC g Y Z) : KeepC g X Z := ⟨Nat.le_trans h.size k.size, fun b cs t fr hb hc => (k.same b cs t fr hb ((h.same b cs t fr hb hc).trans hc)).trans (h.same b cs t fr hb hc)⟩
theorem KeepC.put {g : Nat} (W : World) (l : Nat) (o ob : Obj) (hl : W.heap[l]? = some ob) (hc : ob.isCells = false) : KeepC g W (W.putObj l o) := ⟨by simp [World.putObj], fun b cs t fr hb hcs => World.putObj_heap_other (by
  intro e
  subst e
  rw [hl] at hcs
  cases hcs
  cases hc)⟩
theorem KeepC.grown {g : Nat} {X Y : World} (h : X.grownBy Y (some g)) : KeepC g X Y := ⟨h.size, fun b cs t fr hb hc => h.block b (Array.getElem?_eq_some_iff.1 hc).1 (by intro e; injection e with e; exact hb e)⟩
theorem KeepC.later {g : Nat} {X Y : World} (h : Later X Y) : KeepC g X Y := ⟨h.size, fun b cs t fr _ hc => Below.block h b (Array.getElem?_eq_some_iff.1 hc).1⟩
theorem cells_of_cell {W : World} {b o : Nat} {v : Value} (h : W.cell? ⟨b, o, none⟩ = some v) : ∃ cs t fr, W.heap[b]? = some (.cells cs t fr) := by
  unfold World.cell? at h
  rcases hb : W.heap[b]? with _ | ob
  · simp [hb] at h
  · cases ob <;> simp [hb] at h
    exact ⟨_, _, _, rfl⟩
theorem KeepC.cell {g b o : Nat} {X Y : World} {v : Value} (h : KeepC g X Y) (hb : b ≠ g) (hc : X.cell? ⟨b, o, none⟩ = some v) : Y.cell? ⟨b, o, none⟩ = some v := by
  obtain ⟨cs, t, fr, e⟩ := cells_of_cell hc
  have := h.same b cs t fr hb e
  unfold World.cell? at hc ⊢
  simp only [this]
  exact hc
theorem KeepC.rd {g : Nat} {X Y : World} {A : Option Addr} {l : List UInt8} (h : KeepC g X Y) (hr : Rd X A l) (hA : ∀ ad, A = some ad → l ≠ [] → ad.block ≠ g) : Rd Y A l := fun hne => by
  obtain ⟨b, o, e, hc⟩ := hr hne
  exact ⟨b, o, e, fun i hi => h.cell (hA _ e hne) (hc i hi)⟩
theorem wpListIn_load {F : Fence} {n : Nat} {P : Program} {w : World} {ops : Array Oper} {rest : List Oper} {o : Oper} {a : Act} {Q : Exit → Act → World → Prop} (hgd : o.guard = none) (T : TypeId) (x : Operand) (ho : o.op = .load T x) (vx : Value) (hx : a.eval x = vx) {v : Value} {w' : World}
    (hr : (Instr.loadAt T vx).run P w = .ok v w') (h : wpListIn F n P ops Q rest (a.put o.dst v) w') : wpListIn F n P ops Q (o :: rest) a w := by
  refine wpListIn_plain hgd fun K hK => ?_
  unfold Oper.wpIn
  refine ⟨?_, ?_⟩
  · simp [Oper.about, ho]
  · rw [Oper.semAt_plain F _ _ (by rw [ho]; intro c hc'; cases hc')]
    simp [execOp, ho, hx, hr, Result.andThen]
    exact hK _ _ h
set_option maxRecDepth 100000 in
set_option maxHeartbeats 4000000 in
theorem tags1_seq (key name : List UInt8) (gk gs g8 : Nat) (A : Option Addr) (n ca : Nat) (w : World) (n1 : Nat) (hn1 : 1 ≤ n1) (hn : key.length = n) (hc : n ≤ ca) (hcm : ca ≤ 9223372036854775807) (hnm : n ≤ 1000000) (hnl : name.length ≤ 1000000)
    (hA : Rd w A key) (hAg : ∀ ad, A = some ad → key ≠ [] → ad.block ≠ g8) (hk : w.cell? ⟨gk, 0, none⟩ = some (.slice A n ca)) (hs : w.cell? ⟨gs, 0, none⟩ = some (.string ⟨name.toArray⟩)) (hkg : gk ≠ g8) (hsg : gs ≠ g8) (hg8 : g8 < w.heap.size) :
    SeqC Fence.wide n1 Try.prog 41 #[.pointer (some ⟨gk, 0, none⟩), .pointer (some ⟨gs, 0, none⟩)] (fun x => #[.agg (hC x)]) (KeepC g8) (fun xs => xs.length = 255) (fun _ => True) (fun pre x => x = Hm.tags key name (pre.length + 1) ∧ pre.length < 255) (fun _ => False) w := fun l J Jx W hW hJ hJx hY h0 => by
  have hkW := Later.cell hW hk
  have hsW := Later.cell hW hs
  have hAW := hA.later hW
  have hgW : g8 < W.heap.size := Nat.lt_of_lt_of_le hg8 hW.size
  have HY := Lib.hid hY
  have HJ := Lib.hid hJ
  have HN := Lib.hid hn
  clear hY hJ hJx hk hs hA hW hg8 hn
  refine callsIn_of_wp Try.func41 rfl trivial ?_ rfl
  simp only [Try.ntmps41, List.size_toArray, List.length_cons, List.length_nil, Nat.reduceAdd, Nat.reduceSub, Array.replicate_succ, Array.replicate_zero, List.push_toArray, List.append_toArray, List.nil_append, List.cons_append]
  gi_wp2
  refine wpIn_scope_wide ?_
  gi_wp2
  refine wpIn_label ?_
  gi_wp2
  gi_loopw [4, 7] (fun v t wr => ∃ (pre : List (List UInt8)) (S : Option Addr) (c : Nat), v = .slice S (Hm.tags key name pre.length).length c ∧ (Hm.tags key name pre.length).length ≤ c ∧ c ≤ 9223372036854775807 ∧ Rd wr S (Hm.tags key name pre.length) ∧ (∀ ad, S = some ad → Hm.tags key name pre.length ≠ [] → ad.block ≠ g8) ∧ t = .int .i64 (pre.length : Int) ∧ pre.length ≤ 255 ∧ wr.cell? ⟨gk, 0, none⟩ = some (.slice A n ca) ∧ wr.cell? ⟨gs, 0, none⟩ = some (.string ⟨name.toArray⟩) ∧ Rd wr A key ∧ g8 < wr.heap.size ∧ J pre wr) (fun _ t _ => 255 - (intOf t).toNat)
  case atStart => exact ⟨[], none, 0, rfl, Nat.le_refl _, by decide, fun h => absurd rfl h, fun ad e _ => by (cases e), rfl, by simp, hkW, hsW, hAW, hgW, h0⟩
  case round =>
    obtain ⟨pre, S, c, rfl, hcl, hcM, hS, hSg, rfl, hle, hkr, hsr, hAr, hgr, hJs⟩ := hrel
    clear hkW hsW hAW hgW h0
    obtain ⟨t, ht⟩ : ∃ t, pre.length = t := ⟨_, rfl⟩
    rw [ht] at hle hcl hS hSg
    have HT := Lib.hid ht
    have hpl : ((pre.length : Nat) : Int) = (t : Int) := by rw [ht]
    rw [ht]
    clear hpl ht
    by_cases hlt : t < 255
    · obtain ⟨L, hL⟩ : ∃ q, Hm.tags key name t = q := ⟨_, rfl⟩
      have hLl : L.length ≤ 32 := by
        rw [← hL]
        rcases t with _ | t
        · simp [Hm.tags]
        · rw [Hm.tags_len]; omega
      obtain ⟨T, hTg⟩ : ∃ q, Hm.tags key name (t + 1) = q := ⟨_, rfl⟩
      have hTl : T.length = 32 := by rw [← hTg]; exact Hm.tags_len _ _ _
      obtain ⟨wc, cp, hcv, hrc, hcp1, hcp2, hLc⟩ := conv_rd wr name (by omega)
      have hflat : [L, name, [UInt8.ofNat (t + 1)]].flatten = L ++ name ++ [UInt8.ofNat (t + 1)] := by simp
      have htag : Hm.tag key (L ++ name ++ [UInt8.ofNat (t + 1)]) = T := by rw [← hTg, ← hL]; rfl
      rw [hL] at hcl hS hSg ⊢
      have HTL := Lib.hid hTl
      have HTG := Lib.hid hTg
      have HFL := Lib.hid hflat
      have HTAG := Lib.hid htag
      clear hL hTg hTl hflat htag
      have hS1 := hS.later hLc
      have hA1 := hAr.later hLc
      have hb1 : Rd (wc.alloc (.cells #[.int .u8 ((t : Int) + 1)] 5)) (some ⟨wc.heap.size, 0, none⟩) [UInt8.ofNat (t + 1)] := Rd.byte1 (by rw [UInt8.toNat_ofNat']; omega)
      have hrows := RdsC.three 22 (b := wc.heap.size + 1) (World.size_alloc wc _) (hS1.alloc (.cells #[.int .u8 ((t : Int) + 1)] 5)) rfl hcl hcM (hrc.alloc _) rfl hcp1 hcp2 hb1 rfl (Nat.le_refl 1) (by decide)
      have hcall := hmTag_any A n ca key (some ⟨wc.heap.size + 1, 0, none⟩) 3 3 _ _ HN.out hc hcm hnm ((hA1.alloc _).alloc _) rfl (by decide) (by rw [HFL.out]; simp; omega) hrows
      rw [HFL.out, HTAG.out] at hcall
      have HC := Lib.hid hcall
      have hLw : Later wr ((wc.alloc (.cells #[.int .u8 ((t : Int) + 1)] 5)).alloc (.cells #[.slice S L.length c, .slice (some ⟨wr.heap.size, 0, none⟩) name.length cp, .slice (some ⟨wc.heap.size, 0, none⟩) 1 1] 22)) := (hLc.alloc _).alloc _
      have HLW := Lib.hid hLw
      clear hcall hrows hb1 hS1 hA1 hrc hLc hLw
      refine wpIn_wide.2 ?_
      go_upto_region 5 with (first
        | (go_at_call 20; refine HC.out.mono ?_; rintro e w2 ⟨rfl, hb2⟩; obtain ⟨w3, hst, hr3, hg3⟩ := storeH (a := []) (b := T) (by simp) (by rw [HTL.out]; omega) (Row.new w2 25 (hC [])))
        | (with_reducible refine wpList_alloc rfl 25 rfl (allocH _) ?_)
        | (refine wpList_store rfl 25 (.tmp 6) (.tmp 19) rfl (.pointer (some ⟨w2.heap.size, 0, none⟩)) (.agg (hC T)) rfl rfl hst ?_)
        | fail)
      have hL2 : Later wr w2 := Later.step HLW.out hb2
      have hL3 : Later wr w3 := Below.grown (hL2.alloc _) hg3 (by have := hL2.size; simp only [World.size_alloc]; omega) (fun j e => by cases e; exact hL2.size)
      obtain ⟨g6, hg6⟩ : ∃ q, q = w2.heap.size := ⟨_, rfl⟩
      have hg6r : wr.heap.size ≤ g6 := by rw [hg6]; exact hL2.size
      rw [← hg6] at hr3 ⊢
      have hJ3 := HJ.out pre wr w3 none hJs (grown_of_below hL3) (fun r e => by cases e)
      have hld3 := loadH HTL.out hr3
      have hk3 := hL3.cell hkr
      have hs3 := hL3.cell hsr
      have hA3 := hAr.later hL3
      have hS3 := rd_hash HTL.out hr3
      have hg83 : g8 < w3.heap.size := Nat.lt_of_lt_of_le hgr hL3.size
      have hg6n : g6 ≠ g8 := by omega
      clear hst hg3 hL2 hb2 hg6 HC HLW hL3 hcv hr3
      go_upto_region 6 with (first
        | (refine wpList_slice0 rfl 25 (.tmp 6) rfl (.pointer (some ⟨g6, 0, none⟩)) rfl (sliceHash _) ?_)
        | fail)
      refine (wpIn_wide (n := n1)).1 ?_
      obtain ⟨fn, tmps, assign, body, hy, hR⟩ := HY.out pre T w3 hJ3 ⟨by rw [HT.out, HTG.out], by rw [HT.out]; exact hlt⟩
      gi_wp2_with (first
        | (refine wpListIn_load rfl 25 (.tmp 6) rfl (.pointer (some ⟨g6, 0, none⟩)) rfl hld3 ?_)
        | fail)
      refine hR.mono ?_
      rintro e W5 (⟨rfl, hJ5, hk5⟩ | ⟨rfl, hJx5⟩)
      · have hk5' := hk5.cell hkg hk3
        have hs5' := hk5.cell hsg hs3
        have hA5' := hk5.rd hA3 hAg
        have hS5' := hk5.rd hS3 (fun ad e _ => by cases e; exact hg6n)
        have hg85 := Nat.lt_of_lt_of_le hg83 hk5.size
        have hln : (pre ++ [T]).length = t + 1 := by rw [List.length_append, HT.out]; rfl
        have HLN := Lib.hid hln
        clear hln hk5 hk3 hs3 hA3 hS3 hy hR
        gi_wp2
        go_wp2_with fail
        go_roundw
        case rel => exact ⟨pre ++ [T], some ⟨g6, 0, none⟩, 32, by rw [HLN.out, HTG.out, HTL.out], by rw [HLN.out, HTG.out, HTL.out]; exact Nat.le_refl _, by decide, by rw [HLN.out, HTG.out]; exact hS5', (fun ad e _ => by (cases e); exact hg6n), by rw [HLN.out]; go_num, by rw [HLN.out]; omega, hk5', hs5', hA5', hg85, hJ5⟩
        case measure => simp [intOf]; omega
      · gi_wp2
        go_wp2_with fail
        rw [Exit.noGoto_normal]
        go_end0
        exact ⟨⟨_, rfl⟩, .inr ⟨_, trivial, hJx5⟩⟩
    · gi_wp2
      rw [Exit.noGoto_normal]
      go_end0
      exact ⟨⟨_, rfl⟩, .inl ⟨pre, by rw [HT.out]; omega, hJs⟩⟩
end Go.Proofs.Ytbjclmfhmdalkaa
