/- Walks: a key is expanded. -/
import Derived.Test.YtbjclmfhmdalkaaHm7
import Derived.Deep.DeepCutAuto
set_option linter.unusedVariables false
set_option linter.unusedSimpArgs false
namespace Go.Proofs.Ytbjclmfhmdalkaa
open Go.RowKit Go.Shelf
attribute [local go_sem] Oper.semAt_some
theorem expand_out (A : Option Addr) (m ca : Nat) (name : ByteArray) (n : Int) (w : World) (h : n < 0 ∨ 8160 < n) :
    Calls Try.prog 13 #[.slice A m ca, .string name, .int .i64 n] w fun e w' => e = .returned (.tuple #[.slice none 0 0, .int .i64 2]) ∧ Later w w' := by
  have hL := (Later.refl w).alloc (.cells #[.int .i64 n] 3)
  by_cases h0 : n < 0
  · have hd : decide (n < 0) = true := by simpa using h0
    go_enter Try.func13, Try.ntmps13
    go_wp2
    go_ret2
    exact ⟨rfl, hL⟩
  · have hd : decide (n < 0) = false := by simpa using h0
    have h1 : 8160 < n := by omega
    have hd1 : decide (8160 < n) = true := by simpa using h1
    go_enter Try.func13, Try.ntmps13
    go_wp2
    go_ret2
    exact ⟨rfl, hL⟩
section
variable {F : Fence} {n : Nat} {P : Program} {w : World} {ops : Array Oper} {rest : List Oper} {o : Oper} {a : Act} {Q : Exit → Act → World → Prop}
theorem wpListIn_allocR (hgd : o.guard = none) (T : TypeId) (ho : o.op = .alloc T) {v : Value} {w' : World} (hr : (Instr.alloc T true (.tuple #[])).run P w = .ok v w')
    (h : wpListIn F n P ops Q rest (a.put o.dst v) w') : wpListIn F n P ops Q (o :: rest) a w := by
  refine wpListIn_plain hgd fun K hK => ?_
  unfold Oper.wpIn
  refine ⟨?_, ?_⟩
  · simp [Oper.about, ho]
  · rw [Oper.semAt_plain F _ _ (by rw [ho]; intro c hc'; cases hc')]
    simp [execOp, ho, hr, Result.andThen]
    exact hK _ _ h
theorem wpListIn_storeR (hgd : o.guard = none) (T : TypeId) (x y : Operand) (ho : o.op = .store T x y) (vx vy : Value) (hx : a.eval x = vx) (hy : a.eval y = vy) {w' : World} (hr : (Instr.storeAt T vx vy).run P w = .ok () w')
    (h : wpListIn F n P ops Q rest (a.put o.dst undef) w') : wpListIn F n P ops Q (o :: rest) a w := by
  refine wpListIn_plain hgd fun K hK => ?_
  unfold Oper.wpIn
  refine ⟨?_, ?_⟩
  · simp [Oper.about, ho]
  · rw [Oper.semAt_plain F _ _ (by rw [ho]; intro c hc'; cases hc')]
    simp [execOp, ho, hx, hy, hr, Result.andThen]
    exact hK _ _ h
end
theorem KeepsFrom.of_later {B : Nat} {W W' : World} (h : Later W W') : KeepsFrom B W W' := ⟨h.size, fun k o _ hk _ => (Below.block h k (Array.getElem?_eq_some_iff.1 hk).1).trans hk⟩
/-- All cells stay. -/
def KeepA (X Y : World) : Prop := ∀ (b : Nat) (cs : Array Value) (t : TypeId) (fr : Nat × Nat), X.heap[b]? = some (Obj.cells cs t fr) → Y.heap[b]? = X.heap[b]?
theorem KeepA.of {X Y : World} (h : ∀ (b : Nat) (cs : Array Value) (t : TypeId) (fr : Nat × Nat), X.heap[b]? = some (Obj.cells cs t fr) → Y.heap[b]? = X.heap[b]?) : KeepA X Y := h
theorem KeepA.row {X Y : World} (h : KeepA X Y) {g : Nat} {t : TypeId} {cs : Array Value} (hr : Row X g t cs) : Row Y g t cs := (h g cs t (0, 0) hr).trans hr
theorem KeepA.cell {X Y : World} (h : KeepA X Y) {b o : Nat} {v : Value} (hc : X.cell? ⟨b, o, none⟩ = some v) : Y.cell? ⟨b, o, none⟩ = some v := by
  obtain ⟨cs, t, fr, e⟩ := cells_of_cell hc
  have := h b cs t fr e
  unfold World.cell? at hc ⊢
  simp only [this]
  exact hc
theorem KeepA.rd {X Y : World} (h : KeepA X Y) {A : Option Addr} {l : List UInt8} (hr : Rd X A l) : Rd Y A l := fun hne => by
  obtain ⟨b, o, e, hc⟩ := hr hne
  exact ⟨b, o, e, fun i hi => h.cell (hc i hi)⟩
theorem stab_all {β : Type} {B : Nat} {I : β → World → Prop} (h : ∀ s X Y, KeepA X Y → I s X → I s Y) : Stab B (fun _ => False) I := fun s X Y row hs hg hr => h s X Y (KeepA.of fun b cs t fr hb => hg.block b (Array.getElem?_eq_some_iff.1 hb).1 (fun e => by
  rcases hr b e.symm with h | ⟨_, o, ho, hc⟩
  · exact h
  · rw [hb] at ho
    cases ho
    cases hc)) hs
/-- The bytes that were gathered so far: the first k tags. -/
def Out (key name : List UInt8) (g5 g8 n k : Nat) (W : World) : Prop :=
  ∃ (S : Option Addr) (c : Nat), Row W g8 22 #[.slice S (32 * k) c] ∧ 32 * k ≤ c ∧ c ≤ 9223372036854775807 ∧ Rd W S (Hm.all key name k) ∧ (∀ ad, S = some ad → Hm.all key name k ≠ [] → ad.block ≠ g8) ∧ Row W g5 3 #[.int .i64 (n : Int)]
theorem Out.keep {key name : List UInt8} {g5 g8 n k : Nat} {X Y : World} (h : Out key name g5 g8 n k X) (hk : KeepA X Y) : Out key name g5 g8 n k Y := by
  obtain ⟨S, c, h1, h2, h3, h4, h5, h6⟩ := h
  exact ⟨S, c, hk.row h1, h2, h3, hk.rd h4, h5, hk.row h6⟩
theorem Out.later {key name : List UInt8} {g5 g8 n k : Nat} {X Y : World} (h : Out key name g5 g8 n k X) (hL : Later X Y) : Out key name g5 g8 n k Y :=
  h.keep (KeepA.of fun b cs t fr hb => Below.block hL b (Array.getElem?_eq_some_iff.1 hb).1)
def Pr.rdN (g n : Nat) (l : List UInt8) : Pr := ⟨fun v W => ∃ S c, v = .slice S n c ∧ n ≤ c ∧ c ≤ 9223372036854775807 ∧ Rd W S l ∧ (∀ ad, S = some ad → l ≠ [] → ad.block ≠ g), fun _ _ _ ⟨S, c, e, h1, h2, h3, h4⟩ hL => ⟨S, c, e, h1, h2, h3.later hL, h4⟩⟩
theorem loadSl {b o : Nat} {S : Option Addr} {m c : Nat} {W : World} (hc : W.cell? ⟨b, o, none⟩ = some (.slice S m c)) : (Instr.loadAt 22 (.pointer (some ⟨b, o, none⟩))).run Try.prog W = .ok (.slice S m c) W := by
  go_simp
theorem storeSl {b o : Nat} {S : Option Addr} {m c : Nat} {v : Value} {W : World} (hc : W.cell? ⟨b, o, none⟩ = some v) (hf : W.frozen? ⟨b, o, none⟩ = false) : (Instr.storeAt 22 (.pointer (some ⟨b, o, none⟩)) (.slice S m c)).run Try.prog W = .ok () (W.setCell ⟨b, o, none⟩ (.slice S m c)) := by
  go_simp
set_option maxRecDepth 100000 in
set_option maxHeartbeats 4000000 in
theorem expand_any (A : Option Addr) (m ca : Nat) (key name : List UInt8) (n : Nat) (w : World) (hm : key.length = m) (hc : m ≤ ca) (hcm : ca ≤ 9223372036854775807) (hmm : m ≤ 1000000) (hnl : name.length ≤ 1000000) (hr : Rd w A key) (hn : n ≤ 8160) :
    Calls Try.prog 13 #[.slice A m ca, .string ⟨name.toArray⟩, .int .i64 (n : Int)] w fun e w' => ∃ v, e = .returned (.tuple #[v, .int .i64 0]) ∧ Own 5 w' w.heap.size v (Hm.expand key name n) ∧ Below w.heap.size w w' := by
  have hd0 : decide ((n : Int) < 0) = false := by simp
  have hd1 : decide ((8160 : Int) < (n : Int)) = false := by simp; omega
  refine (callsIn_wide (n := 6)).1 ?_
  refine callsIn_of_wp_marks Try.func13 rfl trivial ?_ rfl
  simp only [Try.ntmps13, List.size_toArray, List.length_cons, List.length_nil, Nat.reduceAdd, Nat.reduceSub, Array.replicate_succ, Array.replicate_zero, List.push_toArray, List.append_toArray, List.nil_append, List.cons_append]
  refine wpIn_wide.2 ?_
  go_upto_region 4 with fail
  obtain ⟨g5, hg5⟩ : ∃ q, q = w.heap.size := ⟨_, rfl⟩
  have hr5 : Row ((w.alloc (.cells #[.int .i64 (n : Int)] 3)).alloc (.cells #[.slice none 0 0] 22)) g5 3 #[.int .i64 (n : Int)] := (Row.newAt hg5.symm).alloc _
  have hr8 : Row ((w.alloc (.cells #[.int .i64 (n : Int)] 3)).alloc (.cells #[.slice none 0 0] 22)) (g5 + 1) 22 #[.slice none 0 0] := Row.newAt (by simp only [World.size_alloc]; omega)
  have hL0 : Later w ((w.alloc (.cells #[.int .i64 (n : Int)] 3)).alloc (.cells #[.slice none 0 0] 22)) := ((Later.refl w).alloc _).alloc _
  have hg8w : w.heap.size < g5 + 1 := by omega
  rw [← hg5]
  have HG5 := Lib.hid hg5
  clear hg5
  generalize (w.alloc (.cells #[.int .i64 (n : Int)] 3)).alloc (.cells #[.slice none 0 0] 22) = w2 at *
  obtain ⟨g8, hg8⟩ : ∃ q, g5 + 1 = q := ⟨_, rfl⟩
  rw [hg8] at hr8 hg8w ⊢
  have HG8 := Lib.hid hg8
  clear hg8 hd0 hd1
  have hrd2 := hr.later hL0
  go_wp2_with (first
    | (go_at_call 27; refine (tags_any _ _ _ _ _).mono ?_; rintro e w3 ⟨gk, gs, rfl, hk3, hs3, hgk, hgs, hL3⟩)
    | fail)
  have hr53 := hr5.later hL3
  have hr83 := hr8.later hL3
  have hrd3 := hrd2.later hL3
  have hL03 : Later w w3 := hL0.step hL3
  have hg82 := hr8.lt
  have hAg : ∀ ad, A = some ad → key ≠ [] → ad.block ≠ g8 := fun ad e hne => by
    obtain ⟨b, o, e', hcx⟩ := hr hne
    have := block_lt_of_cell (hcx 0 (List.length_pos_iff.2 hne))
    rw [e] at e'
    injection e' with e'
    subst e'
    simp only at this ⊢
    omega
  have hseq := tags1_seq key name gk gs g8 A m ca w3 5 (by omega) hm hc hcm hmm hnl hrd3 hAg hk3 hs3 (by omega) (by omega) hr83.lt
  have hout0 : Out key name g5 g8 n 0 w3 := ⟨none, 0, hr83, Nat.le_refl _, by decide, fun h => absurd rfl h, (fun ad e _ => by cases e), hr53⟩
  have hg83 := hr83.lt
  have HS := Lib.hid hseq
  have HO := Lib.hid hout0
  clear hr5 hr8 hL0 hrd2 hL3 hr53 hr83 hrd3 hk3 hs3 hgk hgs hAg hseq hout0 hr hm
  refine name_frame fun T0 hT0 => ?_
  refine (wpIn_wide (n := 6)).1 ?_
  refine wpIn_range_D rfl (by omega) (gf := 41) (lb := #[.pointer (some ⟨gk, 0, none⟩), .pointer (some ⟨gs, 0, none⟩)]) (by rw [hT0]; rfl) trivial (enters_of Try.func41 (by kernel_rfl) rfl)
    HS.out (fun r e => e.elim) (fun h k => h.trans k) (fun W l o ob hl ho hc => KeepC.put W l o ob ho hc) (Below.refl _ _) (fun _ => rfl)
    (fun pre W => Out key name g5 g8 n pre.length W ∧ Below w.heap.size w W) (fun c _ W => (c = Code.exit 0 ∧ ∃ k, n ≤ 32 * k ∧ Out key name g5 g8 n k W) ∧ Below w.heap.size w W)
    ((stab_all (fun s X Y hk h => h.keep hk)).and (stab_below (Nat.le_refl _) hL03.size (fun r e => e.elim)))
    (fun c => (stab_all (fun s X Y hk h => ⟨h.1, h.2.elim fun k h => ⟨k, h.1, h.2.keep hk⟩⟩)).and (stab_below (Nat.le_refl _) hL03.size (fun r e => e.elim)))
    ⟨HO.out, hL03⟩
    (fun pre x a' W => ∃ gt, a' = { tmps := (T0.setIfInBounds 19 (.agg (hC x))).setIfInBounds 9 (.pointer (some ⟨gt, 0, none⟩)), defers := [] } ∧ Row W gt 25 (hC x) ∧ gt ≠ g8)
    (fun pre x a' => stab_all (fun s X Y hk h => by obtain ⟨gt, h1, h2, h3⟩ := h; exact ⟨gt, h1, hk.row h2, h3⟩)) ?assign ?body ?done ?stop
  case assign =>
    intro l pre x W K hi hok hK
    have hxl : x.length ≤ 32 := by rw [hok.1, Hm.tags_len]; omega
    obtain ⟨w9, hst, hr9, hg9⟩ := storeH (a := []) (b := x) (by simp) hxl (Row.new W 25 (hC []))
    have HK := Lib.hid hK
    have HI := Lib.hid hi
    have hL9 : Later W w9 := Below.grown ((Later.refl W).alloc _) hg9 (by simp only [World.size_alloc]; omega) (fun j e => by cases e; exact Nat.le_refl _)
    have hWg : g8 < W.heap.size := by
      obtain ⟨S, c, h1, _⟩ := hi.1
      exact h1.lt
    clear hK hi hok hg9
    have e19 : ((#[19] : Array Tmp).zip #[Value.agg (hC x)]).foldl (fun t (p, v) => t.setIfInBounds p v) T0 = T0.setIfInBounds 19 (.agg (hC x)) := by simp
    rw [e19, hT0]
    clear e19
    simp only [List.setIfInBounds_toArray, List.set_cons_succ, List.set_cons_zero]
    gi_wp2_with (first
      | (refine wpListIn_allocR rfl 25 rfl (allocH _) ?_)
      | (refine wpListIn_storeR rfl 25 (.tmp 9) (.tmp 19) rfl (.pointer (some ⟨W.heap.size, 0, none⟩)) (.agg (hC x)) rfl rfl hst ?_)
      | fail)
    exact HK.out _ _ (KeepsFrom.of_later hL9) (KeepC.later hL9) ⟨HI.out.1.later hL9, HI.out.2.trans (hL9.below.mono HI.out.2.size)⟩ ⟨W.heap.size, by rw [hT0]; rfl, hr9, by omega⟩
  case body =>
    rintro l pre x a' W hl hlo ⟨hout, hb⟩ ⟨hx, hlt⟩ ⟨gt, rfl, hrt, hgt⟩
    have hout' := hout
    obtain ⟨S, c, hr8, hcl, hcM, hrS, hSg, hr5⟩ := hout
    have hxl : x.length = 32 := by rw [hx]; exact Hm.tags_len _ _ _
    have hal : (Hm.all key name pre.length).length = 32 * pre.length := Hm.all_len _ _ _
    have hnx : Hm.all key name (pre.length + 1) = Hm.all key name pre.length ++ x := by rw [Hm.all, hx]
    have hpl : (pre ++ [x]).length = pre.length + 1 := by simp
    have hc8 : W.cell? ⟨g8, 0, none⟩ = some (.slice S (32 * pre.length) c) := (hr8.cell 0).trans rfl
    have hf8 := hr8.frozen 0
    have hc5 : W.cell? ⟨g5, 0, none⟩ = some (.int .i64 (n : Int)) := (hr5.cell 0).trans rfl
    have HO := Lib.hid hout'
    have HX := Lib.hid hx
    have HXL := Lib.hid hxl
    have HPL := Lib.hid hpl
    have HNX := Lib.hid hnx
    have hWg := hr8.lt
    clear hx hxl hpl hnx hout'
    obtain ⟨k, hk⟩ : ∃ k, pre.length = k := ⟨_, rfl⟩
    rw [hk] at hlt hcl hrS hSg hal hc8 hr8
    rw [hk] at HO HX HPL HNX
    have HK := Lib.hid hk
    clear hk
    obtain ⟨q, hq⟩ : ∃ q, 32 * k = q := ⟨_, rfl⟩
    rw [hq] at hcl hc8 hal hr8
    have HQ := Lib.hid hq
    clear hq
    rw [hT0]
    clear hT0 HS
    simp only [List.setIfInBounds_toArray, List.set_cons_succ, List.set_cons_zero]
    by_cases hge : n ≤ q
    · have hd : decide (n ≤ q) = true := by simpa using hge
      have hd' : decide ((n : Int) ≤ (q : Int)) = true := by simp; omega
      gi_wp2
      exact ⟨KeepsFrom.refl _ _, ⟨rfl, k, by rw [HQ.out]; exact hge, HO.out⟩, hb⟩
    · have hd : decide (n ≤ q) = false := by simpa using hge
      have hd' : decide ((n : Int) ≤ (q : Int)) = false := by simp; omega
      obtain ⟨al, hal'⟩ : ∃ y, Hm.all key name k = y := ⟨_, rfl⟩
      rw [hal'] at hrS hSg hal
      rw [hal'] at HNX
      have HAL := Lib.hid hal
      have HJ : Hid (∀ gq W', Later W W' → RdsC W' (some ⟨gq, 0, none⟩) [al, x] → Calls Try.prog 28 #[.slice (some ⟨gq, 0, none⟩) 2 2] W' fun e W2 => ∃ v, e = .returned v ∧ Later W' W2 ∧ (Pr.rdN g8 (q + 32) (al ++ x)).R v W2) := Lib.hid (fun gq W' hL' hrr => by
        have := joined_any (some ⟨gq, 0, none⟩) 2 2 [al, x] W' rfl (by decide) (by simp only [List.flatten_cons, List.flatten_nil, List.append_nil, List.length_append, HXL.out, hal]; omega) hrr
        have hf : [al, x].flatten = al ++ x := by simp
        rw [hf] at this
        refine this.mono ?_
        rintro e W2 ⟨v, he, hown, hb2⟩
        obtain ⟨S2, c2, rfl, h1, h2, h3⟩ := hown.slice
        have hl2 : (al ++ x).length = q + 32 := by rw [List.length_append, hal, HXL.out]
        rw [hl2] at h1 he
        exact ⟨_, he, hb2, S2, c2, rfl, h1, by unfold maxLen at h2; omega, h3, fun ad e hne => by
          obtain ⟨b, o, e', _⟩ := h3 hne
          rw [e] at e'
          injection e' with e'
          have h4 := (hown.at_ b (by rw [e, e']; rfl)).1
          have h5 := hL'.size
          rw [e']
          simp only
          omega⟩)
      clear hal hal'
      gi_wp2
      refine wpIn_region_last (wide_round l) [Pr.eq (.slice S q c), Pr.eq (.slice (some ⟨gt, 0, none⟩) 32 32), Pr.rowsC 2 [al, x], Pr.rdN g8 (q + 32) (al ++ x)] (by kernel_rfl) (by kernel_rfl) (by kernel_rfl) (by kernel_rfl) (by kernel_rfl) (by kernel_rfl) rfl ⟨?_, ?_, ?_, ?_, trivial⟩ ?_
      · exact fun ac W' hL he => stepOk_want rfl (op_load rfl (he.keep (.tmp 8) (by kernel_rfl)) (loadSl (hL.cell hc8)) rfl)
      · exact fun ac W' hL he => stepOk_want rfl (op_slice (W' := W') rfl (he.keep (.tmp 9) (by kernel_rfl)) rfl rfl rfl (sliceHash W') rfl)
      · intro ac W' hL he; refine stepOk_want rfl ?_; have e0 : ac.eval (.tmp 24) = .slice S q c := he.get 0 24 (by kernel_rfl) rfl; have e1 : ac.eval (.tmp 25) = .slice (some ⟨gt, 0, none⟩) 32 32 := he.get 1 25 (by kernel_rfl) rfl; exact op_buildSlice (W' := _) (vs := #[(0, .slice S q c), (1, .slice (some ⟨gt, 0, none⟩) 32 32)]) rfl (by simp only [List.map_toArray, List.map_cons, List.map_nil, e0, e1]) (run_rows2 W' _ _ _ _ _ _) ((Later.refl W').alloc _) ⟨_, rfl, (RdsW.two (w0 := W') 22 rfl (hrS.later hL) HAL.out hcl hcM (rd_hash HXL.out (hrt.later hL)) HXL.out (Nat.le_refl _) (by decide)).toC ((Later.refl W').alloc _)⟩
      · intro ac W' hL he; refine stepOk_want rfl ?_; obtain ⟨gq, eq, hrr⟩ : ∃ g, ac.eval (.tmp 26) = .slice (some ⟨g, 0, none⟩) 2 2 ∧ RdsC W' (some ⟨g, 0, none⟩) [al, x] := he.get 2 26 (by kernel_rfl) rfl; exact op_callF (vs := #[.slice (some ⟨gq, 0, none⟩) 2 2]) rfl (by simp only [List.map_toArray, List.map_cons, List.map_nil, eq]) (enters_of Try.func28 (by kernel_rfl) rfl) (HJ.out gq W' hL hrr)
      · intro xs W2 hL hx hk2 hg2
        have e1 : _ = Value.pointer (some ⟨g8, 0, none⟩) := hk2 (.tmp 8) (by kernel_rfl)
        have e2 := hg2 3 27 (by decide) (by kernel_rfl)
        obtain ⟨S2, c2, v3, h1, h2, h3, h4⟩ : ∃ S2 c2, xs 3 = .slice S2 (q + 32) c2 ∧ q + 32 ≤ c2 ∧ c2 ≤ 9223372036854775807 ∧ Rd W2 S2 (al ++ x) ∧ (∀ ad, S2 = some ad → al ++ x ≠ [] → ad.block ≠ g8) := hx 3 (by decide)
        rw [v3] at e2
        have hr82 := hr8.later hL
        refine last_store rfl rfl e1 e2 (storeSl (hL.cell hc8) (hr82.frozen 0)) ?_
        have hr83 := hr82.set 0 (.slice S2 (q + 32) c2)
        have hgs := grown_set W2 g8 0 (.slice S2 (q + 32) c2)
        have hkc : KeepC g8 W (W2.setCell ⟨g8, 0, none⟩ (.slice S2 (q + 32) c2)) := (KeepC.later hL).trans (KeepC.grown hgs)
        have hrd3 := (KeepC.grown hgs).rd h3 h4
        have hr53 := (hr5.later hL).grown hgs (by intro e; injection e with e; have := HG8.out; omega)
        have hb3 := (hb.trans (hL.below.mono hb.size)).grown hgs (by have := hb.size; have := hL.size; omega) (fun j e => by cases e; omega)
        have hkf : KeepsFrom w3.heap.size W (W2.setCell ⟨g8, 0, none⟩ (.slice S2 (q + 32) c2)) := (KeepsFrom.of_later hL).trans (KeepsFrom.of_grownBy hgs (fun j e => by cases e; exact hg83))
        have hfin : Out key name g5 g8 n (pre ++ [x]).length (W2.setCell ⟨g8, 0, none⟩ (.slice S2 (q + 32) c2)) := by
          rw [HPL.out]
          refine ⟨S2, c2, ?_, by have := HQ.out; omega, h2, by rw [HNX.out]; exact hrd3, by rw [HNX.out]; exact h4, hr53⟩
          rw [show 32 * (k + 1) = q + 32 from by have := HQ.out; omega]
          exact hr83
        exact ⟨hkf, hkc, hfin, hb3⟩
  case done =>
    rintro D xs W hD hS ⟨hout, hb⟩ hK
    have hk : n ≤ 32 * xs.length := by rw [hS]; omega
    generalize xs.length = k at *
    clear hS
    obtain ⟨S, c, hr8, hcl, hcM, hrS, hSg, hr5⟩ := hout
    have hc8 : W.cell? ⟨g8, 0, none⟩ = some (.slice S (32 * k) c) := (hr8.cell 0).trans rfl
    have hc5 : W.cell? ⟨g5, 0, none⟩ = some (.int .i64 (n : Int)) := (hr5.cell 0).trans rfl
    have hex := Hm.expand_of key name n k hk
    have hexl := Hm.expand_len key name n
    have hrn : Rd W S (Hm.expand key name n) := by rw [← hex]; exact hrS.take n
    obtain ⟨ex, hexe⟩ : ∃ y, Hm.expand key name n = y := ⟨_, rfl⟩
    rw [hexe] at hex hexl hrn
    have HEX := Lib.hid hexe
    clear hexe
    have hsl : ∀ w' : World, (Instr.sliceAt 22 (.slice S (32 * k) c) none (some (.int .i64 (n : Int))) none).run Try.prog w' = .ok (.slice S n c) w' :=
      run_slice_upto (k := n) Try.underlying22 byteInfo8 (by omega)
    have hj := joined_any (some ⟨W.heap.size, 0, none⟩) 1 1 [ex] (W.alloc (.cells #[.slice S n c] 22)) rfl (by decide) (by simp only [List.flatten_cons, List.flatten_nil, List.append_nil, hexl]; omega) (RdsC.one 22 rfl hrn hexl (by omega) hcM)
    have hf1 : [ex].flatten = ex := by simp
    rw [hf1] at hj
    have HSL := Lib.hid hsl
    have hbs := hb.size
    have hD2 : w.heap.size ≤ D := Nat.le_trans hL03.size hD
    rw [hT0]
    clear hT0 HS HO hr8 hr5 hex hexl hrn hf1 hsl
    go_upto_region 8 with fail
    go_wp2_with (first
      | (refine wpList_sliceR rfl 22 (.tmp 28) (.tmp 29) rfl (.slice S (32 * k) c) rfl (.int .i64 (n : Int)) rfl (HSL.out _) ?_)
      | (refine wpList_buildSl rfl 23 1 _ rfl #[(0, .slice S n c)] rfl (build1S _ _ _ _) ?_)
      | (go_at_call 28; refine hj.mono ?_; clear hj; rintro e W9 ⟨v, rfl, hown, hb9⟩)
      | fail)
    have hb9' : Below (W.heap.size + 1) (W.alloc (.cells #[.slice S n c] 22)) W9 := by simpa using hb9
    have hLW : Later W W9 := ((Later.refl W).alloc _).call hb9
    have hK9 : W9.heap[D]? = some (.deferred (some [])) := (Below.block hLW D (Array.getElem?_eq_some_iff.1 hK).1).trans hK
    refine ⟨by simp, .inl ⟨_, _, rfl, run_takeDeferred hK9, ?_⟩⟩
    refine ⟨_, results_tmp2 rfl _ _ _, ?_⟩
    have hbW : Below w.heap.size w W9 := hb.trans (hLW.below.mono hbs)
    have hDn : v.ownBlock ≠ some D := fun e => by
      have := (hown.at_ D e).1
      have h2 := (Array.getElem?_eq_some_iff.1 hK).1
      simp only [World.size_alloc] at this
      omega
    exact ⟨v, rfl, by rw [HEX.out]; exact Own.keep (w' := _) (hown.mono (b' := w.heap.size) (by simp only [World.size_alloc]; omega)) (fun b _ e => World.putObj_heap_other (by intro e2; subst e2; exact hDn e)), hbW.trans (belowK_b (w := w) (Nat.le_refl _) W9 D _ _ hD2 hK9 rfl rfl)⟩
  case stop =>
    rintro D c' pre W hD hSp ⟨⟨rfl, k, hk, hout⟩, hb⟩ hK
    gi_wp2
    obtain ⟨S, c, hr8, hcl, hcM, hrS, hSg, hr5⟩ := hout
    have hc8 : W.cell? ⟨g8, 0, none⟩ = some (.slice S (32 * k) c) := (hr8.cell 0).trans rfl
    have hc5 : W.cell? ⟨g5, 0, none⟩ = some (.int .i64 (n : Int)) := (hr5.cell 0).trans rfl
    have hex := Hm.expand_of key name n k hk
    have hexl := Hm.expand_len key name n
    have hrn : Rd W S (Hm.expand key name n) := by rw [← hex]; exact hrS.take n
    obtain ⟨ex, hexe⟩ : ∃ y, Hm.expand key name n = y := ⟨_, rfl⟩
    rw [hexe] at hex hexl hrn
    have HEX := Lib.hid hexe
    clear hexe
    have hsl : ∀ w' : World, (Instr.sliceAt 22 (.slice S (32 * k) c) none (some (.int .i64 (n : Int))) none).run Try.prog w' = .ok (.slice S n c) w' :=
      run_slice_upto (k := n) Try.underlying22 byteInfo8 (by omega)
    have hj := joined_any (some ⟨W.heap.size, 0, none⟩) 1 1 [ex] (W.alloc (.cells #[.slice S n c] 22)) rfl (by decide) (by simp only [List.flatten_cons, List.flatten_nil, List.append_nil, hexl]; omega) (RdsC.one 22 rfl hrn hexl (by omega) hcM)
    have hf1 : [ex].flatten = ex := by simp
    rw [hf1] at hj
    have HSL := Lib.hid hsl
    have hbs := hb.size
    have hD2 : w.heap.size ≤ D := Nat.le_trans hL03.size hD
    rw [hT0]
    clear hT0 HS HO hr8 hr5 hex hexl hrn hf1 hsl
    go_upto_region 8 with fail
    go_wp2_with (first
      | (refine wpList_sliceR rfl 22 (.tmp 28) (.tmp 29) rfl (.slice S (32 * k) c) rfl (.int .i64 (n : Int)) rfl (HSL.out _) ?_)
      | (refine wpList_buildSl rfl 23 1 _ rfl #[(0, .slice S n c)] rfl (build1S _ _ _ _) ?_)
      | (go_at_call 28; refine hj.mono ?_; clear hj; rintro e W9 ⟨v, rfl, hown, hb9⟩)
      | fail)
    have hb9' : Below (W.heap.size + 1) (W.alloc (.cells #[.slice S n c] 22)) W9 := by simpa using hb9
    have hLW : Later W W9 := ((Later.refl W).alloc _).call hb9
    have hK9 : W9.heap[D]? = some (.deferred (some [])) := (Below.block hLW D (Array.getElem?_eq_some_iff.1 hK).1).trans hK
    refine ⟨by simp, .inl ⟨_, _, rfl, run_takeDeferred hK9, ?_⟩⟩
    refine ⟨_, results_tmp2 rfl _ _ _, ?_⟩
    have hbW : Below w.heap.size w W9 := hb.trans (hLW.below.mono hbs)
    have hDn : v.ownBlock ≠ some D := fun e => by
      have := (hown.at_ D e).1
      have h2 := (Array.getElem?_eq_some_iff.1 hK).1
      simp only [World.size_alloc] at this
      omega
    exact ⟨v, rfl, by rw [HEX.out]; exact Own.keep (w' := _) (hown.mono (b' := w.heap.size) (by simp only [World.size_alloc]; omega)) (fun b _ e => World.putObj_heap_other (by intro e2; subst e2; exact hDn e)), hbW.trans (belowK_b (w := w) (Nat.le_refl _) W9 D _ _ hD2 hK9 rfl rfl)⟩
end Go.Proofs.Ytbjclmfhmdalkaa
