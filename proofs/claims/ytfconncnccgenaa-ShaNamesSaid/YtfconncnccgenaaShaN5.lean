/- ShaNames: the walk. -/
import Derived.Test.YtfconncnccgenaaShaN1
import Derived.Test.YtfconncnccgenaaShaN2
import Derived.Test.YtfconncnccgenaaShaN4
set_option linter.unusedVariables false
set_option linter.unusedSimpArgs false
namespace Go.Proofs.Ytfconncnccgenaa
open Go.RowKit
theorem RdsC.three {w : World} {A B C : Option Addr} {n c m d q e b : Nat} {l k p : List UInt8} (t : TypeId) (hb : w.heap.size = b) (h : Rd w A l) (hn : l.length = n) (hc : n ≤ c) (hcm : c ≤ 9223372036854775807) (h2 : Rd w B k) (hm : k.length = m) (hd : m ≤ d) (hdm : d ≤ 9223372036854775807)
    (h3 : Rd w C p) (hq : p.length = q) (he : q ≤ e) (hem : e ≤ 9223372036854775807) : RdsC (w.alloc (.cells #[.slice A n c, .slice B m d, .slice C q e] t)) (some ⟨b, 0, none⟩) [l, k, p] := fun _ => by
  subst hb hn hm hq
  refine ⟨_, _, rfl, fun i hi => ?_⟩
  rcases i with _ | _ | _ | i
  · exact ⟨A, c, ((Row.new w t _).cell 0).trans rfl, hc, hcm, h.alloc _⟩
  · exact ⟨B, d, ((Row.new w t _).cell 1).trans rfl, hd, hdm, h2.alloc _⟩
  · exact ⟨C, e, ((Row.new w t _).cell 2).trans rfl, he, hem, h3.alloc _⟩
  · exact absurd hi (by simp)
def Pr.rows3 (ls : List (List UInt8)) : Pr := ⟨fun v W => ∃ g, v = .slice (some ⟨g, 0, none⟩) 3 3 ∧ RdsC W (some ⟨g, 0, none⟩) ls, fun _ _ _ ⟨g, e, h⟩ hL => ⟨g, e, h.below hL⟩⟩
theorem eqg_str {x y : Operand} {a b : ByteArray} {W : World} : (eqGuard .eql 9 x y (.string a) (.string b)).run Try.prog W = .ok () W := by kernel_rfl
theorem eql_str {a : ByteArray} {W : World} : (binOp .eql 9 (.string a) (.string a)).run Try.prog W = .ok (.bool true) W := by
  go_simp
theorem idxSl (g n c : Nat) (hn : n ≤ 1000000) (W : World) : (Instr.indexAt 23 (.slice (some ⟨g, 0, none⟩) (n + 1) c) (.int .i64 (n : Int))).run Try.prog W = .ok (.pointer (some ⟨g, n, none⟩)) W := by
  have h1 : (n : Int) < ((n + 1 : Nat) : Int) := by omega
  have h2 : (0 : Int) ≤ (n : Int) := by omega
  go_simp
  intro h
  omega
theorem last_assign {P : Program} {Q : Exit → Act → World → Prop} {o : Oper} {a : Act} {W : World} {x : Operand} {vx : Value} (ho : o.op = .assign x) (hx : a.eval x = vx) (h : Q .normal (a.put o.dst vx) W) : LastOk P o a W Q :=
  ⟨op_assignK (K := fun a' W' => Q .normal a' W') ho (by rw [hx]; exact h)⟩
set_option maxRecDepth 100000 in
set_option maxHeartbeats 8000000 in
theorem shaNames_main (s h : List UInt8) (A : Option Addr) (n ca : Nat) (l : List UInt8) (w : World) (hs : s.length ≤ 200) (hh : h.length = 32) (hn : l.length = n) (hnm : n ≤ 300) (hr : Rd w A l) :
    Calls Try.prog 6 #[.string ⟨s.toArray⟩, .agg (hC h), .slice A n ca] w fun e w' => e = .returned (.bool true) ∧ Below w.heap.size w w' := by
  have hd1 : decide (200 < s.length) = false := by simp; omega
  have hd1' : decide ((200 : Int) < (s.length : Int)) = false := by simp; omega
  have hd2 : decide (300 < n) = false := by simp; omega
  have hd2' : decide ((300 : Int) < (n : Int)) = false := by simp; omega
  have hrow := Row.new w 26 (hC h)
  have hb1 := below_new w (.cells (hC h) 26)
  have HN := Lib.hid hn
  have HHL := Lib.hid hh
  clear hn hh
  go_enter Try.func6, Try.ntmps6
  go_upto_region 3 with (first
    | (refine wpList_box rfl 26 (.tmp 1) rfl (.agg (hC h)) rfl (boxH h HHL.out _) ?_)
    | fail)
  obtain ⟨g4, hg4⟩ : ∃ y, y = w.heap.size := ⟨_, rfl⟩
  rw [← hg4] at hrow ⊢
  have hrd1 := hr.below hb1
  have hBs : (w.alloc (.cells (hC h) 26)).heap.size = g4 + 1 := by rw [World.size_alloc]; omega
  obtain ⟨B, hB⟩ : ∃ y, y = g4 + 1 := ⟨_, rfl⟩
  rw [← hB] at hBs
  have hg4B : g4 < B := by omega
  have HG4 := Lib.hid hg4
  have HB := Lib.hid hB
  clear hg4 hB hr
  generalize w.alloc (.cells (hC h) 26) = w1 at *
  have HBS := Lib.hid hBs
  clear hBs
  have hl0 : l.length ≤ n ∨ ∃ hi : n < l.length, l[n] = 9 := .inl (by rw [HN.out]; omega)
  have hl9 : (l ++ [9]).length ≤ n ∨ ∃ hi : n < (l ++ [9]).length, (l ++ [9])[n] = (9 : UInt8) := .inr ⟨by rw [List.length_append, HN.out]; simp, by have e := HN.out; subst e; simp⟩
  have hl1 : ([] : List UInt8).length ≤ n ∨ ∃ hi : n < ([] : List UInt8).length, ([] : List UInt8)[n] = (9 : UInt8) := .inl (by simp)
  have hTU : 26 ≠ 5 := by decide
  refine (wpIn_wide (n := 0)).1 ?_
  obtain ⟨Vs, hVs⟩ : ∃ Vs : List (PrX (TP B n 5 9 26 32)), Vs = [PrX.eq 0 (.agg (hC h)), PrX.own B n 5 9 26 hTU 32 1 0 [] hl1, PrX.eq 2 (.slice A n ca), PrX.own B n 5 9 26 hTU 32 3 n l hl0, PrX.one B n 5 9 26 hTU 32 4, PrX.own B n 5 9 26 hTU 32 5 (n + 1) (l ++ [9]) hl9, PrX.eq 6 (.slice A n ca), PrX.eq 7 (.int .i64 (n : Int)), PrX.pre B n 5 9 26 hTU 32 8 (l ++ [9]) hl9, PrX.var B n 5 9 26 hTU 32 9] := ⟨_, rfl⟩
  have V0 : ∀ xs W, VofX Vs 0 xs W = (xs 0 = .agg (hC h)) := fun _ _ => by rw [hVs]; rfl
  have V1 : ∀ xs W, VofX Vs 1 xs W = (∃ g cap, xs 1 = .slice (some ⟨g, 0, none⟩) 0 cap ∧ (0 = 0 → cap = 0) ∧ Own 5 W B (.slice (some ⟨g, 0, none⟩) 0 cap) []) := fun _ _ => by rw [hVs]; rfl
  have V2 : ∀ xs W, VofX Vs 2 xs W = (xs 2 = .slice A n ca) := fun _ _ => by rw [hVs]; rfl
  have V3 : ∀ xs W, VofX Vs 3 xs W = (∃ g cap, xs 3 = .slice (some ⟨g, 0, none⟩) n cap ∧ (n = 0 → cap = 0) ∧ Own 5 W B (.slice (some ⟨g, 0, none⟩) n cap) l) := fun _ _ => by rw [hVs]; rfl
  have V4 : ∀ xs W, VofX Vs 4 xs W = (∃ g, xs 4 = .slice (some ⟨g, 0, none⟩) 1 1 ∧ Row W g 5 #[byteV 9]) := fun _ _ => by rw [hVs]; rfl
  have V5 : ∀ xs W, VofX Vs 5 xs W = (∃ g cap, xs 5 = .slice (some ⟨g, 0, none⟩) (n + 1) cap ∧ (n + 1 = 0 → cap = 0) ∧ Own 5 W B (.slice (some ⟨g, 0, none⟩) (n + 1) cap) (l ++ [9])) := fun _ _ => by rw [hVs]; rfl
  have V6 : ∀ xs W, VofX Vs 6 xs W = (xs 6 = .slice A n ca) := fun _ _ => by rw [hVs]; rfl
  have V7 : ∀ xs W, VofX Vs 7 xs W = (xs 7 = .int .i64 (n : Int)) := fun _ _ => by rw [hVs]; rfl
  have V8 : ∀ xs W, VofX Vs 8 xs W = (∃ g cap, xs 8 = .slice (some ⟨g, 0, none⟩) n cap ∧ Own 5 W B (.slice (some ⟨g, 0, none⟩) (n + 1) cap) (l ++ [9])) := fun _ _ => by rw [hVs]; rfl
  have V9 : ∀ xs W, VofX Vs 9 xs W = (∃ g cs, xs 9 = .pointer (some ⟨g, 0, none⟩) ∧ B ≤ g ∧ cs.size = 32 ∧ Row W g 26 cs) := fun _ _ => by rw [hVs]; rfl
  obtain ⟨V, hV⟩ : ∃ V : Nat → (Nat → Value) → World → Prop, ∀ j xs W, V j xs W = if j = 10 then (∃ g, xs 9 = .pointer (some ⟨g, 0, none⟩) ∧ Row W g 26 (hC h)) else VofX Vs j xs W := ⟨fun j xs W => if j = 10 then (∃ g, xs 9 = .pointer (some ⟨g, 0, none⟩) ∧ Row W g 26 (hC h)) else VofX Vs j xs W, fun _ _ _ => rfl⟩
  have V10 : ∀ xs W, V 10 xs W = (∃ g, xs 9 = .pointer (some ⟨g, 0, none⟩) ∧ Row W g 26 (hC h)) := fun xs W => by rw [hV, if_pos rfl]
  have Vlt : ∀ j xs W, j < 10 → V j xs W = VofX Vs j xs W := fun j xs W hj => by rw [hV, if_neg (by omega)]
  have hE : ∀ W W', Later W W' → (if (0 : Nat) = 10 then Put B 26 32 else Turn B n 5 9) W W' := fun W W' h => by rw [if_neg (by decide)]; exact .inl h
  refine wpIn_region_lastX wide_wide (fun i => if i = 10 then (fun W W' => W = W' ∨ Put B 26 32 W W') else Turn B n 5 9) (fun W0 W => Below B W0 W) (fun i W => ?_) (fun i W W' hG ht => ?_) (by have := (Later.refl w1).drew.below; rwa [HBS.out] at this) V (fun i j xs v W W' hj hne hw h ht => ?_)
    (by kernel_rfl) (by kernel_rfl) (by kernel_rfl) (by kernel_rfl) (by kernel_rfl) (by kernel_rfl) rfl ⟨?_, ?_, ?_, ?_, ?_, ?_, ?_, ?_, ?_, ?_, ?_, trivial⟩ ?_
  · by_cases e : i = 10
    · rw [if_pos e]; exact .inl rfl
    · rw [if_neg e]; exact .inl (Later.refl W)
  · by_cases e : i = 10
    · rw [if_pos e] at ht
      rcases ht with rfl | ⟨g, cs, cs', hBg, _, _, _, hg⟩
      · exact hG
      · exact Below.grown hG hg (by have := hG.size; have := HBS.out; omega) (fun j e => by cases e; exact hBg)
    · rw [if_neg e] at ht
      exact Turn.below hG (by rw [HBS.out]; omega) ht
  · by_cases e : j = 10
    · subst e
      rw [V10] at h ⊢
      have hi9 : i ≠ 9 := fun e => by subst e; exact Bool.noConfusion (hw.symm.trans (by kernel_rfl : _ = true))
      rw [if_neg (fun e => hne e.symm)] at ht
      obtain ⟨g, e9, hr9⟩ := h
      exact ⟨g, by rw [upd_ne xs v (fun e => hi9 e.symm)]; exact e9, row_turn hr9 (.inl hTU) ht⟩
    · rw [hV, if_neg e] at h ⊢
      have ht' : TP B n 5 9 26 32 W W' := by
        by_cases ei : i = 10
        · rw [if_pos ei] at ht
          rcases ht with rfl | ht
          · exact .inl (.inl (Later.refl W))
          · exact .inr ht
        · rw [if_neg ei] at ht
          exact .inl ht
      exact VofX.st (by rw [hVs]; kernel_rfl) i j xs v W W' hne hw h ht'
  · intro ac W xs hG he
    refine stepOkE_later (fun W' h => by rw [if_neg (by decide)]; exact .inl h) rfl (op_load rfl (he.keep (.tmp 4) (by kernel_rfl)) (loadH HHL.out (hrow.below hG hg4B)) ?_)
    rw [Vlt _ _ _ (by decide), V0]
    exact upd_self _ _ _
  · intro ac W xs hG he
    refine stepOkE_later (fun W' h => by rw [if_neg (by decide)]; exact .inl h) rfl (op_buildSlice (W' := _) (vs := #[]) rfl (by simp) (run_void W) ((Later.refl W).alloc _) ?_)
    rw [Vlt _ _ _ (by decide), V1]
    exact ⟨_, _, upd_self _ _ _, fun _ => rfl, own_void W _ _ (by have := hG.size; have := HBS.out; omega)⟩
  · intro ac W xs hG he
    refine stepOkE_later (fun W' h => by rw [if_neg (by decide)]; exact .inl h) rfl (op_move rfl ?_)
    rw [Vlt _ _ _ (by decide), V2]
    exact (upd_self _ _ _).trans (he.keep (.tmp 2) (by kernel_rfl))
  · intro ac W xs hG he
    have q1 := he.get 1 (by decide) (by kernel_rfl)
    have q2 := he.get 2 (by decide) (by kernel_rfl)
    rw [Vlt _ _ _ (by decide), V1] at q1
    rw [Vlt _ _ _ (by decide), V2] at q2
    obtain ⟨g, cap, e1, h0, ho⟩ := q1
    obtain rfl := h0 rfl
    have e1' := (he.val 1 22 (by kernel_rfl) rfl).trans e1
    have e2' := (he.val 2 23 (by kernel_rfl) rfl).trans q2
    obtain ⟨g2, cap2, W', hrun, hL, ho2, hz⟩ := run_append_void (P := Try.prog) W B g 23 23 5 Try.underlying23 byteInfo8 ho (by have := hG.size; have := HBS.out; omega) A n ca l HN.out (hrd1.below (by rw [HBS.out]; exact hG)) (by omega)
    refine stepOkE_want rfl (op_append_run rfl e1' e2' hrun ⟨_, rfl, ?_, ?_⟩)
    · rw [if_neg (by decide)]; exact .inl hL
    · rw [Vlt _ _ _ (by decide), V3]
      exact ⟨g2, cap2, upd_self _ _ _, hz, ho2⟩
  · intro ac W xs hG he
    refine stepOkE_later (fun W' h => by rw [if_neg (by decide)]; exact .inl h) rfl (op_buildSlice (W' := _) (vs := #[(0, .int .u8 9)]) rfl (by simp [Act.eval]) (run_one 9 W) ((Later.refl W).alloc _) ?_)
    rw [Vlt _ _ _ (by decide), V4]
    exact ⟨_, upd_self _ _ _, Row.new W _ _⟩
  · intro ac W xs hG he
    have q3 := he.get 3 (by decide) (by kernel_rfl)
    have q4 := he.get 4 (by decide) (by kernel_rfl)
    rw [Vlt _ _ _ (by decide), V3] at q3
    rw [Vlt _ _ _ (by decide), V4] at q4
    obtain ⟨g, cap, e3, h03, ho3⟩ := q3
    obtain ⟨b, e4, hb4⟩ := q4
    have e3' := (he.val 3 24 (by kernel_rfl) rfl).trans e3
    have e4' := (he.val 4 25 (by kernel_rfl) rfl).trans e4
    rcases run_append_one (P := Try.prog) W B g n cap 23 23 5 Try.underlying23 byteInfo8 l HN.out ho3 (by have := hG.size; have := HBS.out; omega) b 9 1 ((hb4.cell 0).trans rfl) (by omega) with ⟨hlt, hrun⟩ | ⟨v', W', hrun, hL, ho'⟩
    · obtain ⟨ho', cur, hBg, hhg, hncur⟩ := own_push 9 HN.out ho3 hlt
      refine stepOkE_want rfl (op_append_run rfl e3' e4' hrun ⟨_, rfl, ?_, ?_⟩)
      · rw [if_neg (by decide)]; exact .inr ⟨g, cur, hBg, hhg, hncur, by omega, rfl⟩
      · rw [Vlt _ _ _ (by decide), V5]
        exact ⟨g, cap, upd_self _ _ _, fun e => by omega, ho'⟩
    · obtain ⟨g', c', rfl, ho'', _, _, _, _⟩ := Own.formN ho' (n := n + 1) (by rw [List.length_append, HN.out]; rfl) (by omega)
      refine stepOkE_want rfl (op_append_run rfl e3' e4' hrun ⟨_, rfl, ?_, ?_⟩)
      · rw [if_neg (by decide)]; exact .inl hL
      · rw [Vlt _ _ _ (by decide), V5]
        exact ⟨g', c', upd_self _ _ _, fun e => by omega, ho''⟩
  · intro ac W xs hG he
    refine stepOkE_later (fun W' h => by rw [if_neg (by decide)]; exact .inl h) rfl (op_move rfl ?_)
    rw [Vlt _ _ _ (by decide), V6]
    exact (upd_self _ _ _).trans (he.keep (.tmp 2) (by kernel_rfl))
  · intro ac W xs hG he
    have q6 := he.get 6 (by decide) (by kernel_rfl)
    rw [Vlt _ _ _ (by decide), V6] at q6
    refine stepOkE_later (fun W' h => by rw [if_neg (by decide)]; exact .inl h) rfl (op_len Try.underlying23 rfl ((he.val 6 27 (by kernel_rfl) rfl).trans q6) ?_)
    rw [Vlt _ _ _ (by decide), V7]
    exact upd_self _ _ _
  · intro ac W xs hG he
    have q5 := he.get 5 (by decide) (by kernel_rfl)
    have q7 := he.get 7 (by decide) (by kernel_rfl)
    rw [Vlt _ _ _ (by decide), V5] at q5
    rw [Vlt _ _ _ (by decide), V7] at q7
    obtain ⟨g, cap, e5, _, ho5⟩ := q5
    have e5' := (he.val 5 26 (by kernel_rfl) rfl).trans e5
    have e7' := (he.val 7 28 (by kernel_rfl) rfl).trans q7
    obtain ⟨_, _, es, hle, _, _⟩ := ho5.slice
    injection es with _ _ es
    subst es
    have hnc : n ≤ cap := by rw [List.length_append, HN.out] at hle; simp at hle; omega
    refine stepOkE_later (fun W' h => by rw [if_neg (by decide)]; exact .inl h) rfl (op_slice (W' := W) rfl e5' rfl (congrArg some e7') rfl (run_slice_upto (k := n) Try.underlying23 (byteInfo8 : ByteInfo Try.prog 5) hnc W) ?_)
    rw [Vlt _ _ _ (by decide), V8]
    exact ⟨g, cap, upd_self _ _ _, ho5⟩
  · intro ac W xs hG he
    refine stepOkE_later (fun W' h => by rw [if_neg (by decide)]; exact .inl h) rfl (op_alloc rfl (allocH W) ((Later.refl W).alloc _) ?_)
    rw [Vlt _ _ _ (by decide), V9]
    exact ⟨_, _, upd_self _ _ _, by have := hG.size; have := HBS.out; omega, hC_size [] (by simp), Row.new W _ _⟩
  · intro ac W xs hG he
    have q9 := he.get 9 (by decide) (by kernel_rfl)
    have q0 := he.get 0 (by decide) (by kernel_rfl)
    rw [Vlt _ _ _ (by decide), V9] at q9
    rw [Vlt _ _ _ (by decide), V0] at q0
    obtain ⟨g, cs, e9, hBg, hs9, hr9⟩ := q9
    have e9' := (he.val 9 7 (by kernel_rfl) rfl).trans e9
    have e0' := (he.val 0 21 (by kernel_rfl) rfl).trans q0
    have h32 := hC_size h (by rw [HHL.out]; omega)
    obtain ⟨W', hst, hr', hg'⟩ := run_put_row (P := Try.prog) (T := 26) hr9 (vs := hC h) (by rw [h32, hs9]) (by rw [h32]; exact infoH) (hC_one _)
    refine stepOkE_want rfl (op_storeK rfl e9' e0' hst ⟨undef, rfl, ?_, ?_⟩)
    · rw [if_pos rfl]; exact .inr ⟨g, cs, _, hBg, hr9, hr', h32, hg'⟩
    · rw [V10]
      exact ⟨g, by rw [upd_ne xs _ (by decide)]; exact e9, hr'⟩
  · intro xs W hG hx hk hg
    have q8 := hx 8 (by decide)
    have q10 := hx 10 (by decide)
    rw [Vlt _ _ _ (by decide), V8] at q8
    rw [V10] at q10
    obtain ⟨gk, capk, e8, hok⟩ := q8
    obtain ⟨g7, e9, hr7⟩ := q10
    have e29 := (hg 8 29 (by decide) (by kernel_rfl)).trans e8
    refine last_assign rfl e29 ?_
    clear hx hk hg e29
    simp only [initL, lastL, putL, Nat.reduceAdd, Act.put, List.setIfInBounds_toArray, List.set_cons_succ, List.set_cons_zero, e8, e9]
    have hr4 : Row W g4 26 (hC h) := hrow.below hG hg4B
    have hrdb : Rd W A l := hrd1.below (by rw [HBS.out]; exact hG)
    obtain ⟨_, _, es, hle, hcm, hrd9⟩ := hok.slice
    injection es with es1 _ es2
    subst es1 es2
    unfold maxLen at hcm
    have hnk : n + 1 ≤ capk := by rw [List.length_append, HN.out] at hle; exact hle
    have hrdk : Rd W (some ⟨gk, 0, none⟩) l := by have := hrd9.take n; rwa [List.take_left' HN.out] at this
    have hcell9 : W.cell? ⟨gk, n, none⟩ = some (.int .u8 9) := by
      obtain ⟨b, o, e, hc⟩ := hrd9.at_ (k := n) (by rw [List.length_append, HN.out]; simp)
      injection e with e
      injection e with e1 e2
      subst e1 e2
      rw [Nat.zero_add] at hc
      rw [hc]
      have : (l ++ [9])[n]'(by rw [List.length_append, HN.out]; simp) = (9 : UInt8) := by have e := HN.out; subst e; simp
      rw [this]
      rfl
    have hb0 : Below w.heap.size w W := by
      have h1 : Below w1.heap.size w1 W := by rw [HBS.out]; exact hG
      exact hb1.trans (h1.mono hb1.size)
    have HB0 := Lib.hid hb0
    have hrl4 := hr4.lt
    clear e8 e9 V0 V1 V2 V3 V4 V5 V6 V7 V8 V9 V10 Vlt hE hV hVs hG hrow hrd1 hb1 hb0 hok hrd9 hle hl0 hl1 hl9 HBS HB HG4
    have hlen2 : (h ++ l).length = 32 + n := by rw [List.length_append, HHL.out, HN.out]
    have HBL := Lib.hid hlen2
    clear hlen2
    go_upto_region 5 with (first
      | (refine wpList_slice0 rfl 26 (.tmp 4) rfl (.pointer (some ⟨g4, 0, none⟩)) rfl (sliceHash _) ?_)
      | (at_builtin; refine wpList_append_bytes rfl (.tmp 30) (.tmp 31) 23 rfl W.heap.size 5 Try.underlying23 byteInfo8 _ [] rfl (own_void W _ _ (Nat.le_refl _)) (some ⟨g4, 0, none⟩) 32 32 h rfl HHL.out (rd_hash HHL.out (hr4.alloc _)) (by simp) (by simp) ?_; intro v2 w2 hown2 hg2 hat2; have hL2 : Later W w2 := Below.grown (below_new W _) hg2 (by simp) (fun j e => by cases e; exact Nat.le_refl _))
      | (at_builtin; refine wpList_append_bytes rfl (.tmp 32) (.tmp 33) 23 rfl W.heap.size 5 Try.underlying23 byteInfo8 _ h rfl hown2 A n ca l rfl HN.out (hrdb.later hL2) (by rw [HHL.out]; omega) hL2.size ?_; intro v3 w3 hown3 hg3 hat3; have hL3 : Later W w3 := Below.grown hL2 hg3 hL2.size (fun j e => (hown2.at_ j e).1))
      | fail)
    obtain ⟨A9, c9, rfl, hc9, hc9m, hrd9⟩ := hown3.slice
    rw [HBL.out] at hc9 ⊢
    unfold maxLen at hc9m
    clear hown2 hown3 hg2 hg3 hat2 hat3 hL2
    obtain ⟨tag, htag⟩ : ∃ y, Sha.sum s = y := ⟨_, rfl⟩
    have htl : tag.length = 32 := by rw [← htag]; exact Sha.sum_len _
    obtain ⟨wc, cp, hcv, hrdc, hcp1, hcp2, hLc⟩ := conv_rd w3 s (by omega)
    have hcall := sum_at (some ⟨w3.heap.size, 0, none⟩) s.length cp s tag 23 wc hrdc rfl hcp1 hcp2 (by omega) htag
    have HC := Lib.hid hcall
    have HTG := Lib.hid htag
    have HTL := Lib.hid htl
    clear hcall htag htl hrdc
    have x4 := hr4.later hL3
    have x7 := hr7.later hL3
    have xb := hrdb.later hL3
    have xk := hrdk.later hL3
    have x9 := hL3.cell hcell9
    have xB := HB0.out.trans (hL3.below.mono HB0.out.size)
    clear hr4 hr7 hrdb hrdk hcell9 HB0 hL3 hrl4
    have hLc3 : Later w3 (wc.alloc (.cells #[.slice (some ⟨w3.heap.size, 0, none⟩) s.length cp] 23)) := hLc.alloc _
    go_upto_region 6 with (first
      | (refine wpList_buildSl rfl 51 1 _ rfl #[(0, .slice (some ⟨w3.heap.size, 0, none⟩) s.length cp)] rfl (build1S _ _ _ _) ?_)
      | (go_at_call 10; refine HC.out.mono ?_; rintro e w5 ⟨rfl, hb5⟩; have hL5 : Later w3 w5 := hLc3.step (hb5.mono (by simp)); obtain ⟨w6, hst, hr10, hg6⟩ := storeH (a := []) (b := tag) (by simp) (by rw [HTL.out]; omega) (Row.new w5 26 (hC [])))
      | (with_reducible refine wpList_alloc rfl 26 rfl (allocH _) ?_)
      | (refine wpList_store rfl 26 (.tmp 10) (.tmp 38) rfl (.pointer (some ⟨w5.heap.size, 0, none⟩)) (.agg (hC tag)) rfl rfl hst ?_)
      | fail)
    obtain ⟨g10, hg10⟩ : ∃ y, y = w5.heap.size := ⟨_, rfl⟩
    rw [← hg10] at hr10 hg6 ⊢
    have hL6 : Later w3 w6 := Below.grown (hL5.alloc _) hg6 (by have := hL5.size; simp only [World.size_alloc]; omega) (fun j e => by cases e; have := hL5.size; omega)
    clear hst hg6 hg10 hL5 hb5 hLc3 HC hcv
    obtain ⟨res, hres⟩ : ∃ y, y = Sha.sum (Sha.sum s ++ Sha.sum s ++ (h ++ l)) := ⟨_, rfl⟩
    have hrl : res.length = 32 := by rw [hres]; exact Sha.sum_len _
    have hnm2 := named_any s (some ⟨w6.heap.size, 0, none⟩) 2 2 [h, l] (w6.alloc (.cells #[.slice (some ⟨g4, 0, none⟩) 32 32, .slice (some ⟨gk, 0, none⟩) n capk] 23)) (by omega) rfl (by decide) (by simp only [List.flatten_cons, List.flatten_nil, List.append_nil, List.length_append, HHL.out, HN.out]; omega)
      ((RdsW.two (w0 := w6) 23 rfl (rd_hash HHL.out (x4.later hL6)) HHL.out (Nat.le_refl _) (by decide) (xk.later hL6) HN.out (by omega) (by omega)).toC ((Later.refl w6).alloc _))
    simp only [List.flatten_cons, List.flatten_nil, List.append_nil] at hnm2
    rw [← hres] at hnm2
    have HNM := Lib.hid hnm2
    have HRS := Lib.hid hres
    have HRL := Lib.hid hrl
    clear hnm2 hres hrl
    go_upto_region 7 with (first
      | (refine wpList_slice0 rfl 26 (.tmp 4) rfl (.pointer (some ⟨g4, 0, none⟩)) rfl (sliceHash _) ?_)
      | (refine wpList_buildSl rfl 51 2 _ rfl #[(0, .slice (some ⟨g4, 0, none⟩) 32 32), (1, .slice (some ⟨gk, 0, none⟩) n capk)] rfl (run_rows2 _ _ _ _ _ _ _) ?_)
      | (go_at_call 22; refine HNM.out.mono ?_; rintro e w7 ⟨rfl, hb7⟩; have hL7 : Later w6 w7 := ((Later.refl w6).alloc _).call hb7; obtain ⟨w8, hst, hr11, hg8⟩ := storeH (a := []) (b := res) (by simp) (by rw [HRL.out]; omega) (Row.new w7 26 (hC [])))
      | (with_reducible refine wpList_alloc rfl 26 rfl (allocH _) ?_)
      | (refine wpList_store rfl 26 (.tmp 11) (.tmp 43) rfl (.pointer (some ⟨w7.heap.size, 0, none⟩)) (.agg (hC res)) rfl rfl hst ?_)
      | fail)
    obtain ⟨g11, hg11⟩ : ∃ y, y = w7.heap.size := ⟨_, rfl⟩
    rw [← hg11] at hr11 hg8 ⊢
    have hL8 : Later w6 w8 := Below.grown (hL7.alloc _) hg8 (by have := hL7.size; simp only [World.size_alloc]; omega) (fun j e => by cases e; have := hL7.size; omega)
    have hL38 := hL6.step hL8
    have hr10 := hr10.later hL8
    have hr4 := x4.later hL38
    have hr7 := x7.later hL38
    have hrdb := xb.later hL38
    have hrdk := xk.later hL38
    have hcell9 := hL38.cell x9
    have hrd9 := hrd9.later hL38
    have hb8 := xB.trans (hL38.below.mono xB.size)
    have HRN : Hid (∀ W, Rd W A9 (h ++ l) → Calls Try.prog 23 #[.string ⟨s.toArray⟩, .slice A9 (32 + n) c9] W fun e w' => e = .returned (.agg (hC res)) ∧ Below W.heap.size W w') := Lib.hid (fun W hr => by
      have := refNamed_any s A9 (32 + n) c9 (h ++ l) W (by omega) HBL.out (by omega) hr
      rwa [← HRS.out] at this)
    have HSS : Hid (∀ gr W, RdsC W (some ⟨gr, 0, none⟩) [tag, tag, h ++ l] → Calls Try.prog 10 #[.slice (some ⟨gr, 0, none⟩) 3 3] W fun e w' => e = .returned (.agg (hC res)) ∧ Below W.heap.size W w') := Lib.hid (fun gr W hr => by
      have := shaSum_any (some ⟨gr, 0, none⟩) 3 3 [tag, tag, h ++ l] W rfl (by decide) (by simp only [List.flatten_cons, List.flatten_nil, List.append_nil, List.length_append, HTL.out, HHL.out, HN.out]; omega) hr
      have hf : [tag, tag, h ++ l].flatten = Sha.sum s ++ Sha.sum s ++ (h ++ l) := by rw [HTG.out]; simp
      rwa [hf, ← HRS.out] at this)
    have HSK : Hid (∀ W : World, (Instr.sliceAt 23 (.slice (some ⟨gk, 0, none⟩) n capk) none (some (.int .i64 ((n : Int) + 1))) none).run Try.prog W = .ok (.slice (some ⟨gk, 0, none⟩) (n + 1) capk) W) := Lib.hid (fun W => run_slice_upto (k := n + 1) Try.underlying23 (byteInfo8 : ByteInfo Try.prog 5) hnk W)
    have HIX := Lib.hid (idxSl gk n capk (by omega))
    have hbs := hb8.size
    have hc9n : 32 + n ≤ c9 := hc9
    clear hc9 hst hg8 hg11 hL6 hL7 hL8 hL38 hb7 HNM x4 x7 xb xk x9 xB
    have hc9 := hc9n
    refine (wpIn_wide (n := 0)).1 ?_
    refine wpIn_region_vals wide_wide [Pr.eq (.agg (hC res)), Pr.eq (.string ⟨s.toArray⟩), Pr.eq (.slice A9 (32 + n) c9), Pr.eq (.agg (hC res)), Pr.eq (.bool true), Pr.eq (.bool true), Pr.eq (.agg (hC res)), Pr.eq (.slice (some ⟨g10, 0, none⟩) 32 32), Pr.eq (.slice (some ⟨g10, 0, none⟩) 32 32), Pr.eq (.slice A9 (32 + n) c9), Pr.rows3 [tag, tag, h ++ l], Pr.eq (.agg (hC res)), Pr.eq (.bool true), Pr.eq (.bool true), Pr.eq (.bool true), Pr.eq (.agg (hC h)), Pr.eq (.agg (hC h)), Pr.eq (.bool true), Pr.eq (.bool true), Pr.eq (.bool true), Pr.eq (.slice (some ⟨gk, 0, none⟩) n capk), Pr.eq (.string ⟨l.toArray⟩), Pr.eq (.slice A n ca), Pr.eq (.string ⟨l.toArray⟩), Pr.eq (.bool true), Pr.eq (.bool true), Pr.eq (.bool true), Pr.eq (.slice (some ⟨gk, 0, none⟩) n capk), Pr.eq (.slice A n ca), Pr.eq (.int .i64 (n : Int)), Pr.eq (.int .i64 ((n : Int) + 1)), Pr.eq (.slice (some ⟨gk, 0, none⟩) (n + 1) capk), Pr.eq (.slice A n ca), Pr.eq (.int .i64 (n : Int)), Pr.eq (.pointer (some ⟨gk, n, none⟩)), Pr.eq (.int .u8 9), Pr.eq (.bool true), Pr.eq (.bool true), Pr.eq (.bool true), Pr.eq (.bool true), Pr.eq (.bool true), Pr.eq (.bool true)] (by kernel_rfl) (by kernel_rfl) (by kernel_rfl) (by kernel_rfl) (by kernel_rfl) ⟨?_, ?_, ?_, ?_, ?_, ?_, ?_, ?_, ?_, ?_, ?_, ?_, ?_, ?_, ?_, ?_, ?_, ?_, ?_, ?_, ?_, ?_, ?_, ?_, ?_, ?_, ?_, ?_, ?_, ?_, ?_, ?_, ?_, ?_, ?_, ?_, ?_, ?_, ?_, ?_, ?_, ?_, trivial⟩ ?_
    · exact fun ac W hL he => stepOk_want rfl (op_load rfl (he.keep (.tmp 11) (by kernel_rfl)) (loadH HRL.out (hr11.later hL)) rfl)
    · exact fun ac W hL he => stepOk_want rfl (op_move rfl (he.keep (.tmp 0) (by kernel_rfl)))
    · exact fun ac W hL he => stepOk_want rfl (op_move rfl (he.keep (.tmp 9) (by kernel_rfl)))
    · intro ac W hL he; refine stepOk_want rfl ?_; have e0 : ac.eval (.tmp 45) = (.string ⟨s.toArray⟩) := (he.get 1 45 (by kernel_rfl) rfl); have e1 : ac.eval (.tmp 46) = (.slice A9 (32 + n) c9) := (he.get 2 46 (by kernel_rfl) rfl); exact op_callF (vs := #[.string ⟨s.toArray⟩, .slice A9 (32 + n) c9]) rfl (by simp only [List.map_toArray, List.map_cons, List.map_nil, e0, e1]) (enters_of Try.func23 (by kernel_rfl) rfl) ((HRN.out W (hrd9.later hL)).mono fun e W' ⟨he', hb⟩ => ⟨_, he', hb, rfl⟩)
    · exact fun ac W hL he => stepOk_want rfl (op_binOp rfl (he.get 0 44 (by kernel_rfl) rfl) (he.get 3 47 (by kernel_rfl) rfl) (eqgHash _ _ _ _ _ W) (eqlSame res HRL.out W) rfl)
    · exact fun ac W hL he => stepOk_want rfl (op_move rfl (he.get 4 48 (by kernel_rfl) rfl))
    · exact fun ac W hL he => stepOk_yes (j := 5) (t := 49) (b := true) rfl rfl (he.get 5 49 (by kernel_rfl) rfl) (op_load rfl (he.keep (.tmp 11) (by kernel_rfl)) (loadH HRL.out (hr11.later hL)) rfl)
    · exact fun ac W hL he => stepOk_yes (j := 5) (t := 49) (b := true) rfl rfl (he.get 5 49 (by kernel_rfl) rfl) (op_slice (W' := W) rfl (he.keep (.tmp 10) (by kernel_rfl)) rfl rfl rfl (sliceHash W) rfl)
    · exact fun ac W hL he => stepOk_yes (j := 5) (t := 49) (b := true) rfl rfl (he.get 5 49 (by kernel_rfl) rfl) (op_slice (W' := W) rfl (he.keep (.tmp 10) (by kernel_rfl)) rfl rfl rfl (sliceHash W) rfl)
    · exact fun ac W hL he => stepOk_yes (j := 5) (t := 49) (b := true) rfl rfl (he.get 5 49 (by kernel_rfl) rfl) (op_move rfl (he.keep (.tmp 9) (by kernel_rfl)))
    · intro ac W hL he; refine stepOk_yes (j := 5) (t := 49) (b := true) rfl rfl (he.get 5 49 (by kernel_rfl) rfl) ?_; have e0 : ac.eval (.tmp 51) = (.slice (some ⟨g10, 0, none⟩) 32 32) := (he.get 7 51 (by kernel_rfl) rfl); have e1 : ac.eval (.tmp 52) = (.slice (some ⟨g10, 0, none⟩) 32 32) := (he.get 8 52 (by kernel_rfl) rfl); have e2 : ac.eval (.tmp 53) = (.slice A9 (32 + n) c9) := (he.get 9 53 (by kernel_rfl) rfl); exact op_buildSlice (W' := _) (vs := #[(0, .slice (some ⟨g10, 0, none⟩) 32 32), (1, .slice (some ⟨g10, 0, none⟩) 32 32), (2, .slice A9 (32 + n) c9)]) rfl (by simp only [List.map_toArray, List.map_cons, List.map_nil, e0, e1, e2]) (run_rows3 W _ _ _ _ _ _ _ _ _) ((Later.refl W).alloc _) ⟨_, rfl, RdsC.three 23 rfl (rd_hash HTL.out (hr10.later hL)) HTL.out (Nat.le_refl _) (by decide) (rd_hash HTL.out (hr10.later hL)) HTL.out (Nat.le_refl _) (by decide) (hrd9.later hL) HBL.out hc9 hc9m⟩
    · intro ac W hL he; refine stepOk_yes (j := 5) (t := 49) (b := true) rfl rfl (he.get 5 49 (by kernel_rfl) rfl) ?_; obtain ⟨gr, er, hrr⟩ : ∃ g, ac.eval (.tmp 54) = .slice (some ⟨g, 0, none⟩) 3 3 ∧ RdsC W (some ⟨g, 0, none⟩) [tag, tag, h ++ l] := he.get 10 54 (by kernel_rfl) rfl; exact op_callF (vs := #[.slice (some ⟨gr, 0, none⟩) 3 3]) rfl (by simp only [List.map_toArray, List.map_cons, List.map_nil, er]) (enters_of Try.func10 (by kernel_rfl) rfl) ((HSS.out gr W hrr).mono fun e W' ⟨he', hb⟩ => ⟨_, he', hb, rfl⟩)
    · exact fun ac W hL he => stepOk_yes (j := 5) (t := 49) (b := true) rfl rfl (he.get 5 49 (by kernel_rfl) rfl) (op_binOp rfl (he.get 6 50 (by kernel_rfl) rfl) (he.get 11 55 (by kernel_rfl) rfl) (eqgHash _ _ _ _ _ W) (eqlSame res HRL.out W) rfl)
    · exact fun ac W hL he => stepOk_want rfl (op_pick (b := true) rfl (he.get 5 49 (by kernel_rfl) rfl) (he.get 12 56 (by kernel_rfl) rfl))
    · exact fun ac W hL he => stepOk_want rfl (op_move rfl (he.get 13 57 (by kernel_rfl) rfl))
    · exact fun ac W hL he => stepOk_yes (j := 14) (t := 58) (b := true) rfl rfl (he.get 14 58 (by kernel_rfl) rfl) (op_load rfl (he.keep (.tmp 4) (by kernel_rfl)) (loadH HHL.out (hr4.later hL)) rfl)
    · exact fun ac W hL he => stepOk_yes (j := 14) (t := 58) (b := true) rfl rfl (he.get 14 58 (by kernel_rfl) rfl) (op_load rfl (he.keep (.tmp 7) (by kernel_rfl)) (loadH HHL.out (hr7.later hL)) rfl)
    · exact fun ac W hL he => stepOk_yes (j := 14) (t := 58) (b := true) rfl rfl (he.get 14 58 (by kernel_rfl) rfl) (op_binOp rfl (he.get 15 59 (by kernel_rfl) rfl) (he.get 16 60 (by kernel_rfl) rfl) (eqgHash _ _ _ _ _ W) (eqlSame h HHL.out W) rfl)
    · exact fun ac W hL he => stepOk_want rfl (op_pick (b := true) rfl (he.get 14 58 (by kernel_rfl) rfl) (he.get 17 61 (by kernel_rfl) rfl))
    · exact fun ac W hL he => stepOk_want rfl (op_move rfl (he.get 18 62 (by kernel_rfl) rfl))
    · exact fun ac W hL he => stepOk_yes (j := 19) (t := 63) (b := true) rfl rfl (he.get 19 63 (by kernel_rfl) rfl) (op_move rfl (he.keep (.tmp 8) (by kernel_rfl)))
    · exact fun ac W hL he => stepOk_yes (j := 19) (t := 63) (b := true) rfl rfl (he.get 19 63 (by kernel_rfl) rfl) (op_convert rfl (he.get 20 64 (by kernel_rfl) rfl) (run_string_rd W 23 9 5 _ n capk l Try.underlying23 Try.underlying5 Try.underlying9 HN.out (hrdk.later hL)) (Later.refl _) rfl)
    · exact fun ac W hL he => stepOk_yes (j := 19) (t := 63) (b := true) rfl rfl (he.get 19 63 (by kernel_rfl) rfl) (op_move rfl (he.keep (.tmp 2) (by kernel_rfl)))
    · exact fun ac W hL he => stepOk_yes (j := 19) (t := 63) (b := true) rfl rfl (he.get 19 63 (by kernel_rfl) rfl) (op_convert rfl (he.get 22 66 (by kernel_rfl) rfl) (run_string_rd W 23 9 5 _ n ca l Try.underlying23 Try.underlying5 Try.underlying9 HN.out (hrdb.later hL)) (Later.refl _) rfl)
    · exact fun ac W hL he => stepOk_yes (j := 19) (t := 63) (b := true) rfl rfl (he.get 19 63 (by kernel_rfl) rfl) (op_binOp rfl (he.get 21 65 (by kernel_rfl) rfl) (he.get 23 67 (by kernel_rfl) rfl) eqg_str eql_str rfl)
    · exact fun ac W hL he => stepOk_want rfl (op_pick (b := true) rfl (he.get 19 63 (by kernel_rfl) rfl) (he.get 24 68 (by kernel_rfl) rfl))
    · exact fun ac W hL he => stepOk_want rfl (op_move rfl (he.get 25 69 (by kernel_rfl) rfl))
    · exact fun ac W hL he => stepOk_yes (j := 26) (t := 70) (b := true) rfl rfl (he.get 26 70 (by kernel_rfl) rfl) (op_move rfl (he.keep (.tmp 8) (by kernel_rfl)))
    · exact fun ac W hL he => stepOk_yes (j := 26) (t := 70) (b := true) rfl rfl (he.get 26 70 (by kernel_rfl) rfl) (op_move rfl (he.keep (.tmp 2) (by kernel_rfl)))
    · exact fun ac W hL he => stepOk_yes (j := 26) (t := 70) (b := true) rfl rfl (he.get 26 70 (by kernel_rfl) rfl) (op_len Try.underlying23 rfl (he.get 28 72 (by kernel_rfl) rfl) rfl)
    · exact fun ac W hL he => stepOk_yes (j := 26) (t := 70) (b := true) rfl rfl (he.get 26 70 (by kernel_rfl) rfl) (op_binOp rfl (he.get 29 73 (by kernel_rfl) rfl) rfl eqg_add (addI (x := (n : Int)) (y := 1) (by omega) (by omega)) rfl)
    · exact fun ac W hL he => stepOk_yes (j := 26) (t := 70) (b := true) rfl rfl (he.get 26 70 (by kernel_rfl) rfl) (op_slice (W' := W) rfl (he.get 27 71 (by kernel_rfl) rfl) rfl (congrArg some (he.get 30 74 (by kernel_rfl) rfl)) rfl (HSK.out W) rfl)
    · exact fun ac W hL he => stepOk_yes (j := 26) (t := 70) (b := true) rfl rfl (he.get 26 70 (by kernel_rfl) rfl) (op_move rfl (he.keep (.tmp 2) (by kernel_rfl)))
    · exact fun ac W hL he => stepOk_yes (j := 26) (t := 70) (b := true) rfl rfl (he.get 26 70 (by kernel_rfl) rfl) (op_len Try.underlying23 rfl (he.get 32 76 (by kernel_rfl) rfl) rfl)
    · exact fun ac W hL he => stepOk_yes (j := 26) (t := 70) (b := true) rfl rfl (he.get 26 70 (by kernel_rfl) rfl) (op_idx rfl (he.get 31 75 (by kernel_rfl) rfl) (he.get 33 77 (by kernel_rfl) rfl) (HIX.out W) rfl)
    · exact fun ac W hL he => stepOk_yes (j := 26) (t := 70) (b := true) rfl rfl (he.get 26 70 (by kernel_rfl) rfl) (op_load rfl (he.get 34 78 (by kernel_rfl) rfl) (load8 (hL.cell hcell9)) rfl)
    · exact fun ac W hL he => stepOk_yes (j := 26) (t := 70) (b := true) rfl rfl (he.get 26 70 (by kernel_rfl) rfl) (op_binOp rfl (he.get 35 79 (by kernel_rfl) rfl) rfl eqg_eql eql8 rfl)
    · exact fun ac W hL he => stepOk_want rfl (op_pick (b := true) rfl (he.get 26 70 (by kernel_rfl) rfl) (he.get 36 80 (by kernel_rfl) rfl))
    · exact fun ac W hL he => stepOk_want rfl (op_move rfl (he.get 37 81 (by kernel_rfl) rfl))
    · intro ac W hL he; refine stepOk_yes (j := 38) (t := 82) (b := true) rfl rfl (he.get 38 82 (by kernel_rfl) rfl) ?_; exact op_callF (vs := #[]) rfl (by simp) (enters_of Try.func9 (by kernel_rfl) rfl) ((works_yes W).mono fun e W' ⟨he', hb⟩ => ⟨_, he', hb, rfl⟩)
    · exact fun ac W hL he => stepOk_want rfl (op_pick (b := true) rfl (he.get 38 82 (by kernel_rfl) rfl) (he.get 39 83 (by kernel_rfl) rfl))
    · exact fun ac W hL he => stepOk_want rfl (op_assign rfl (he.get 40 84 (by kernel_rfl) rfl))
    · intro xs2 W9 hL hx
      have he41 : xs2 41 = .bool true := hx 41 (by decide)
      have hb9 := hb8.trans (hL.mono hbs)
      clear hx hL
      simp only [putL, Nat.reduceAdd, Act.put, List.setIfInBounds_toArray, List.set_cons_succ, List.set_cons_zero, he41]
      go_wp2_with fail
      go_ret
      exact ⟨rfl, hb9⟩
end Go.Proofs.Ytfconncnccgenaa
