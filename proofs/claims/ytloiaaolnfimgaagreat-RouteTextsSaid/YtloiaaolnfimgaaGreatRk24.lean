/- Walks, route: the end of Text: the digits of sealed bytes. -/
import Derived.Test.YtloiaaolnfimgaaGreatRk23
import Derived.Test.YtloiaaolnfimgaaGreatRk16t
set_option linter.unusedVariables false
set_option linter.unusedSimpArgs false
namespace Go.Proofs.YtloiaaolnfimgaaGreat
open Go.RowKit Rt
theorem owns_later {T : TypeId} {B n m : Nat} {v : Value} {xs : List Value} {w w' : World} (h : w.ownsRow B T n v m xs) (hL : Later w w') : w'.ownsRow B T n v m xs := by
  obtain ⟨h1, h2⟩ := h
  refine ⟨h1, ?_⟩
  rcases h2 with h | ⟨g, cap, cur, rfl, hb, hh, hr⟩
  · exact .inl h
  · exact .inr ⟨g, cap, cur, rfl, hb, by rw [hL.below.block g (Array.getElem?_eq_some_iff.1 hh).1]; exact hh, hr⟩
theorem builderAt_later {T e : TypeId} {B b : Nat} {p : Value} {bs : List Value} {w w' : World} (h : Lib.BuilderAt T e B b p bs w) (hL : Later w w') : Lib.BuilderAt T e B b p bs w' := by
  have hlt := h.lt
  obtain ⟨hB, v, hb, ho, hne⟩ := h
  exact ⟨hB, v, (hL.below.block b hlt).trans hb, owns_later ho hL, hne⟩
theorem isBuilder_later {T e : TypeId} {B b : Nat} {bs : List Value} {w w' : World} (h : Lib.IsBuilder T e B b bs w) (hL : Later w w') : Lib.IsBuilder T e B b bs w' := h.imp (fun h => builderAt_later h hL) (fun h => builderAt_later h hL)
theorem isBuilder_lt {T e : TypeId} {B b : Nat} {bs : List Value} {w : World} (h : Lib.IsBuilder T e B b bs w) : b < w.heap.size := h.elim (fun h => h.lt) (fun h => h.lt)
theorem textOf_ne {l : List UInt8} (h : l ≠ []) : textOf l ≠ [] := by
  intro e
  have := textOf_len l
  rw [e] at this
  have := List.length_pos_iff.2 h
  simp at *
  omega
theorem hC_pad (d : List UInt8) (h : d.length ≤ 32) : hC (d ++ Sha.zeros (32 - d.length)) = hC d := by
  unfold hC
  rw [show 32 - (d ++ Sha.zeros (32 - d.length)).length = 0 by simp [Sha.zeros]; omega]
  simp [Sha.zeros]
set_option maxRecDepth 100000 in
set_option maxHeartbeats 4000000 in
theorem text_tail (cd : Code) (hcd : ((Tryz.prog.funcs[(16 : Nat)]?.bind (·.body)).bind (fromR 7)) = some cd) (w W : World) (gA n c : Nat) (S : List UInt8) (hn : S.length = n) (hk : n ≤ 1000) (hnc : n ≤ c) (hrd : Rd W (some ⟨gA, 0, none⟩) S) (hb : Below w.heap.size w W)
    (Q : Exit → Act → World → Prop) (hQ : ∀ (a' : Act) (W' : World), a'.defers = [] → a'.tmps.getD 2 undef = .string ⟨(markL ++ textOf S).toArray⟩ → a'.tmps.getD 3 undef = .int .i64 0 → Below w.heap.size w W' → Q .ret a' W')
    (u0 u1 u2 u3 u4 u6 u7 u8 u9 u10 u11 u12 u13 u14 u15 u16 u17 u18 u19 u20 u21 u22 u23 u24 u25 u26 u27 u28 u29 u30 u31 u32 u33 u34 u35 u36 u37 u38 u39 u40 u41 u42 u43 u44 u45 u46 u47 : Value) :
    cd.wp Tryz.prog Q { tmps := #[u0, u1, u2, u3, u4, .slice (some ⟨gA, 0, none⟩) n c, u6, u7, u8, u9, u10, u11, u12, u13, u14, u15, u16, u17, u18, u19, u20, u21, u22, u23, u24, u25, u26, u27, u28, u29, u30, u31, u32, u33, u34, u35, u36, u37, u38, u39, u40, u41, u42, u43, u44, u45, u46, u47], defers := [] } W := by
  conv at hcd => lhs; whnf
  injection hcd with hcd
  subst hcd
  have HN := Lib.hid hn
  have HR := Lib.hid hrd
  have HQ := Lib.hid hQ
  have HB := Lib.hid hb
  have HC := Lib.hid hnc
  clear hn hrd hQ hb hnc
  have hb0 := Lib.fresh_isBuilder 120 5 W
  have L0 : Later W (W.alloc (.cells #[.pointer none, .slice none 0 0] 120)) := below_new W _
  go_upto_region 8 with fail
  obtain ⟨B, hB⟩ : ∃ y, y = W.heap.size := ⟨_, rfl⟩
  rw [← hB] at hb0 ⊢
  generalize W.alloc (.cells #[.pointer none, .slice none 0 0] 120) = w0 at *
  have HBB := Lib.hid hB
  have HL0 := Lib.hid L0
  have hs0 := L0.size
  rw [← hB] at hs0
  clear hB L0
  have hm := writeStr_any B B [] markL w0 hb0 (by decide) (by decide) hs0
  go_upto_region 9 with (first
    | (go_at_call 59; refine hm.mono ?_; clear hm; rintro e w1 ⟨rfl, hb1, hbw1⟩)
    | fail)
  have hst1 : B ≤ w1.heap.size := Nat.le_trans hs0 hbw1.size
  have hB1 : Below B W w1 := by have := HL0.out.below; rw [← HBB.out] at this; exact this.trans hbw1
  clear hb0 hbw1
  go_loopw [5, 7, 8] (fun sv _ _ wr => ∃ p o : Nat, p ≤ n ∧ (p < n → o = p) ∧ sv = .slice (some ⟨gA, o, none⟩) (n - p) (c - p) ∧ Lib.IsBuilder 120 5 B B (Lib.byteCells (markL ++ textOf (S.take p))) wr ∧ Below B W wr ∧ B ≤ wr.heap.size) (fun sv _ _ _ => match sv with | .slice _ k _ => k | _ => 0)
  case atStart => exact ⟨0, 0, by omega, fun _ => rfl, rfl, .inr hb1, hB1, hst1⟩
  case round =>
    obtain ⟨p, o, hp, ho, rfl, hbk, hbw, hsw⟩ := hrel
    clear hb1 hB1 hst1
    by_cases hlt : p < n
    · obtain rfl := (ho hlt).symm
      have hd : decide (((n - p : Nat) : Int) > 0) = true := decide_eq_true (by omega)
      have hd' : decide (0 < n - p) = true := decide_eq_true (by omega)
      have hrd : Rd wr (some ⟨gA, p, none⟩) (S.drop p) := by
        have h := (HR.out.below (by rw [← HBB.out]; exact hbw)).drop p
        rw [show (some (⟨gA, 0, none⟩ : Addr)).map (·.add p) = some ⟨gA, p, none⟩ from by simp [Addr.add]; intro h; first | exact h.symm | (subst h; rfl)] at h
        exact h
      obtain ⟨r, hr⟩ : ∃ r, S.drop p = r := ⟨_, rfl⟩
      obtain ⟨m, hm⟩ : ∃ m, min (n - p) 32 = m := ⟨_, rfl⟩
      obtain ⟨d, hd3⟩ : ∃ d, r.take m = d := ⟨_, rfl⟩
      rw [hr] at hrd
      have hrl : r.length = n - p := by rw [← hr, List.length_drop, HN.out]
      have hdl : d.length = m := by rw [← hd3, List.length_take]; omega
      have hm32 : m ≤ 32 ∧ 0 < m ∧ m ≤ n - p := by omega
      have hnx : textOf (S.take (p + m)) = textOf (S.take p) ++ textOf d := by rw [List.take_add, hr, hd3, textOf_two]
      have hdn : d ≠ [] := by intro e; rw [e] at hdl; simp at hdl; omega
      have k7 := Row.new wr 25 (hC [])
      have hrd7 := hrd.alloc (.cells (hC []) 25)
      have HBK := Lib.hid hbk
      have HBW := Lib.hid hbw
      have hLa : Later wr (wr.alloc (.cells (hC []) 25)) := below_new wr _
      have HNX := Lib.hid hnx
      have HD3 := Lib.hid hd3
      have HM := Lib.hid hm
      have HRR := Lib.hid hr
      clear hnx hd3 hm hr hrd hbk hbw
      go_upto_region 11 with (first
        | (with_reducible refine wpList_alloc rfl 25 rfl (allocH _) ?_)
        | fail)
      obtain ⟨g7, hg7⟩ : ∃ q, q = wr.heap.size := ⟨_, rfl⟩
      rw [← hg7] at k7 ⊢
      have hsz7 : (wr.alloc (.cells (hC []) 25)).heap.size = g7 + 1 := by rw [hg7]; simp
      generalize wr.alloc (.cells (hC []) 25) = w4 at *
      have HG7 := Lib.hid hg7
      clear hg7
      go_upto_region 12 with (first
        | (refine wpList_slice0 rfl 25 (.tmp 7) rfl (.pointer (some ⟨g7, 0, none⟩)) rfl (sliceHash _) ?_)
        | (refine wpList_copy_rd rfl (.tmp 35) (.tmp 36) 60 60 rfl 5 Tryz.underlying60 (by kernel_rfl) g7 0 32 32 (some ⟨gA, p, none⟩) (n - p) (c - p) r hrl hrd7 rfl rfl _ _ k7 m HM.out (by rw [hC_size _ (by decide)]; omega) ?_; intro w5 k75 hg5)
        | fail)
      rw [HD3.out, show (0 : Nat) = ([] : List UInt8).length from rfl, hC_copy [] d (by simp; omega), List.nil_append, ← hC_pad d (by omega)] at k75
      obtain ⟨H, hH⟩ : ∃ H, d ++ Sha.zeros (32 - d.length) = H := ⟨_, rfl⟩
      rw [hH] at k75
      have hHl : H.length = 32 := by rw [← hH]; simp [Sha.zeros]; omega
      have htk : (textOf H).take (2 * m) = textOf d := by rw [← hH, ← hdl]; exact text_part d
      have hld := loadH hHl k75
      have htx := fun W => text_any H hHl W
      obtain ⟨tH, htH⟩ : ∃ t, textOf H = t := ⟨_, rfl⟩
      have htl : tH.length = 64 := by rw [← htH, textOf_len, hHl]
      have hsl := fun W => run_str_to tH (2 * m) (by omega) (by omega) W
      rw [htH] at htx htk
      rw [htk] at hsl
      have hmul : IntKind.i64.wrap (2 * (m : Int)) = ((2 * m : Nat) : Int) := by rw [show (2 : Int) * (m : Int) = ((2 * m : Nat) : Int) from by omega]; exact IntWalk.i64_in _ (by omega)
      have hsl2 : ∀ W, (Instr.slice 9 (.string ⟨tH.toArray⟩) none (some (.int .i64 (2 * (m : Int)))) none).run Tryz.prog W = .ok (.string ⟨(textOf d).toArray⟩) W := fun W => by have h := hsl W; rw [show ((2 * m : Nat) : Int) = 2 * (m : Int) from by omega] at h; exact h
      have hL5 : Later wr w5 := hLa.grown hg5 hLa.size (fun j e => by cases e; have := HG7.out; omega)
      have hbk5 := isBuilder_later HBK.out hL5
      have hbw5 := HBW.out.trans (hL5.below.mono hsw)
      have hs5 := Nat.le_trans hsw hL5.size
      have HL5 := Lib.hid hL5
      have HTX := Lib.hid htx
      have hlen : (Lib.byteCells (markL ++ textOf (S.take p))).length ≤ 3000 := by rw [Lib.byteCells_length, List.length_append, textOf_len, List.length_take]; have := HN.out; have : markL.length = 5 := rfl; omega
      have hws := fun W6 (h6 : Later w5 W6) => writeStr_any B B _ (textOf d) W6 (isBuilder_later hbk5 h6) (by rw [textOf_len, hdl]; omega) (textOf_ne hdn) (Nat.le_trans hs5 h6.size)
      have HWS := Lib.hid hws
      clear hws htx hL5 hsl hg5 htk hH htH hLa hrd7 k7 hbk5
      go_upto_region 13 with (first
        | (guard_target =~ wpList _ _ _ (_ :: _) _ _; refine wpList_load rfl 25 (.tmp 7) rfl (.pointer (some ⟨g7, 0, none⟩)) rfl hld ?_)
        | (go_at_call 60; refine (HTX.out _).mono ?_; rintro e w6 ⟨rfl, hb6⟩)
        | (go_at_call 59; refine (HWS.out _ hb6).mono ?_; rintro e w7 ⟨rfl, hb7, hbw7⟩)
        | fail)
      have hbB : Below B W w7 := (hbw5.trans (hb6.mono (Nat.le_trans hs5 (Nat.le_refl _)))).trans hbw7
      have hs7 : B ≤ w7.heap.size := Nat.le_trans (Nat.le_trans hs5 hb6.size) hbw7.size
      have hcat : Lib.byteCells (markL ++ textOf (S.take p)) ++ (textOf d).map byteV = Lib.byteCells (markL ++ textOf (S.take (p + m))) := by rw [HNX.out]; simp [Lib.byteCells]
      rw [hcat] at hb7
      clear hcat hbw7 hb6 hbw5 hld hsl2 hmul
      go_wp2_with fail
      have hmn := HM.out
      go_roundw
      case rel =>
        refine ⟨p + m, if c - p = m then p else p + m, by omega, fun h => ?_, ?_, .inr hb7, hbB, hs7⟩
        · have := HC.out
          rw [if_neg (by omega)]
        · by_cases h : c - p = m
          · rw [if_pos h, if_pos h, show n - (p + m) = n - p - m by omega, show c - (p + m) = c - p - m by omega]
          · rw [if_neg h, if_neg h, show n - (p + m) = n - p - m by omega, show c - (p + m) = c - p - m by omega]
      case measure =>
        show n - p - m < n - p
        omega
    · obtain rfl : p = n := by omega
      have hd : decide (((p - p : Nat) : Int) > 0) = false := decide_eq_false (by omega)
      have hd' : decide (0 < p - p) = false := decide_eq_false (by omega)
      rw [List.take_of_length_le (by rw [HN.out]; exact Nat.le_refl _)] at hbk
      rw [Nat.sub_self]
      go_wp2_with (first
        | (go_at_call 61; refine (Tryz.Builder_String_any B B (markL ++ textOf S) _ hbk hsw).mono ?_; rintro e w9 ⟨rfl, hb9⟩)
        | fail)
      exact HQ.out _ _ rfl rfl rfl (HB.out.trans ((hbw.trans hb9).mono (by rw [HBB.out]; exact HB.out.size)))
end Go.Proofs.YtloiaaolnfimgaaGreat
