/- Walks, route: the end of the document's Parse. -/
import Derived.Test.YtloiaaolnfimgaaGreatRk33
import Derived.Test.YtloiaaolnfimgaaGreatRk16t
set_option linter.unusedVariables false
set_option linter.unusedSimpArgs false
namespace Go.Proofs.YtloiaaolnfimgaaGreat
open Go.RowKit Rt
theorem buildRf0 (A : Option Addr) (n c : Nat) (w : World) : (Instr.build 89 #[(0, .slice A n c)]).run Tryz.prog w = .ok (.agg (rfV A n c false)) w := by kernel_rfl
def Rt.invD (b : List UInt8) : Hop := ⟨pd (rd1 b).2.1, pd (rd2 b).2.1, (rd3 b).2.1, (rd4 b).2.1⟩
theorem okRd_iff (b : List UInt8) : okRd b = true ↔ (rd4 b).1.2 = false := by
  have h1 := (hashR_ok (l := b) (bad := false))
  have h2 := (hashR_ok (l := (rd1 b).1.1) (bad := (rd1 b).1.2))
  have h3 := (numR_ok (l := (rd2 b).1.1) (bad := (rd2 b).1.2) (most := 1125899906842624) (by decide))
  have h4 := (numR_ok (l := (rd3 b).1.1) (bad := (rd3 b).1.2) (most := 1000) (by decide))
  have e : okRd b = true ↔ ((rd1 b).2.2 = 0 ∧ (rd2 b).2.2 = 0 ∧ (rd3 b).2.2 = 0 ∧ (rd4 b).2.2 = 0) := by
    unfold okRd
    rw [List.all_eq_true]
    constructor
    · intro h
      exact ⟨of_decide_eq_true (h 0 (by simp)), of_decide_eq_true (h 1 (by simp)), of_decide_eq_true (h 2 (by simp)), of_decide_eq_true (h 3 (by simp))⟩
    · rintro ⟨a, b', c, d⟩ j hj
      rw [List.mem_range] at hj
      rcases j with _ | _ | _ | _ | j
      · exact decide_eq_true a
      · exact decide_eq_true b'
      · exact decide_eq_true c
      · exact decide_eq_true d
      · omega
  rw [e]
  constructor
  · rintro ⟨a1, a2, a3, a4⟩
    exact h4.1.2 ⟨h3.1.2 ⟨h2.1.2 ⟨h1.1.2 ⟨rfl, a1⟩, a2⟩, a3⟩, a4⟩
  · intro h
    obtain ⟨b3, a4⟩ := h4.1.1 h
    obtain ⟨b2, a3⟩ := h3.1.1 b3
    obtain ⟨b1, a2⟩ := h2.1.1 b2
    obtain ⟨-, a1⟩ := h1.1.1 b1
    exact ⟨a1, a2, a3, a4⟩
theorem invD_ok {b : List UInt8} (h : okRd b = true) : invD b = invOf b := by
  have hw := invOf_wf h
  unfold invD
  rw [pd_id (show (rd1 b).2.1.length = 32 from hw.1), pd_id (show (rd2 b).2.1.length = 32 from hw.2)]
  rfl
theorem parsedB_bad {b : List UInt8} (h : (rd4 b).1.2 = true) : parsedB b = (noHop, 351) := by
  have : okRd b = false := by
    cases e : okRd b with
    | false => rfl
    | true => rw [(okRd_iff b).1 e] at h; cases h
  unfold parsedB
  rw [this]
  rfl
theorem parsedB_fine {b : List UInt8} (h : (rd4 b).1.2 = false) : parsedB b = if (rd4 b).1.1.isEmpty && okInv (invD b) then (invD b, 0) else (noHop, 351) := by
  have hok := (okRd_iff b).2 h
  have he : decide (endB b = 0) = (rd4 b).1.1.isEmpty := by
    unfold endB Wr.endR
    rw [h]
    cases (rd4 b).1.1 with
    | nil => rfl
    | cons x l => rfl
  unfold parsedB
  rw [hok, he, Bool.true_and, ← invD_ok hok]

set_option maxRecDepth 100000 in
set_option maxHeartbeats 4000000 in
theorem refParse_tail (cd : Code) (hcd : ((Tryz.prog.funcs[(19 : Nat)]?.bind (·.body)).bind (fromR 14)) = some cd) (w W : World) (q n c : Nat) (A : Option Addr) (b : List UInt8) (hn : b.length = n) (hk : n ≤ 1000) (hc : n ≤ c) (hcm : c ≤ 9223372036854775807) (hrd : Rd W A b) (kq : Row W q 51 (hopC noHop)) (hb : Below w.heap.size w W) (hqw : w.heap.size ≤ q)
    (Q : Exit → Act → World → Prop) (hQ : ∀ (a' : Act) (W' : World), a'.defers = [] → a'.tmps.getD 2 undef = .pointer (some ⟨q, 0, none⟩) → a'.tmps.getD 3 undef = .int .i64 (parsedB b).2 → Row W' q 51 (hopC (parsedB b).1) → Below w.heap.size w W' → Q .ret a' W')
    (u0 u1 u3 u5 u6 u7 u8 u9 u10 u11 u12 u13 u14 u15 u16 u17 u18 u19 u20 u21 u22 u23 u24 u25 u26 u27 u28 u29 u30 u31 u32 u33 u34 u35 u36 u37 u38 u39 u40 u41 u42 u43 u44 u45 u46 u47 u48 u49 u50 u51 u52 u53 u54 u55 u56 u57 u58 u59 u60 u61 u62 u63 u64 u65 u66 u67 u68 u69 u70 u71 u72 u73 u74 u75 u76 u77 u78 u79 u80 u81 u82 u83 u84 u85 u86 u87 u88 u89 u90 u91 u92 u93 u94 u95 u96 u97 u98 u99 u100 u101 u102 u103 u104 u105 u106 u107 u108 u109 u110 u111 u112 u113 : Value) :
    cd.wp Tryz.prog Q { tmps := #[u0, u1, .pointer (some ⟨q, 0, none⟩), u3, .slice A n c, u5, u6, u7, u8, u9, u10, u11, u12, u13, u14, u15, u16, u17, u18, u19, u20, u21, u22, u23, u24, u25, u26, u27, u28, u29, u30, u31, u32, u33, u34, u35, u36, u37, u38, u39, u40, u41, u42, u43, u44, u45, u46, u47, u48, u49, u50, u51, u52, u53, u54, u55, u56, u57, u58, u59, u60, u61, u62, u63, u64, u65, u66, u67, u68, u69, u70, u71, u72, u73, u74, u75, u76, u77, u78, u79, u80, u81, u82, u83, u84, u85, u86, u87, u88, u89, u90, u91, u92, u93, u94, u95, u96, u97, u98, u99, u100, u101, u102, u103, u104, u105, u106, u107, u108, u109, u110, u111, u112, u113], defers := [] } W := by
  conv at hcd => lhs; whnf
  injection hcd with hcd
  subst hcd
  have hq1 := kq.lt
  have k9 := Row.new W 51 (hopC noHop)
  have L9 : Later W (W.alloc (.cells (hopC noHop) 51)) := below_new W _
  have hs9 : (W.alloc (.cells (hopC noHop) 51)).heap.size = W.heap.size + 1 := by simp
  have k10 := Row.new (W.alloc (.cells (hopC noHop) 51)) 89 (rfV A n c false)
  have L10 : Later (W.alloc (.cells (hopC noHop) 51)) ((W.alloc (.cells (hopC noHop) 51)).alloc (.cells (rfV A n c false) 89)) := below_new _ _
  rw [hs9] at k10
  have hoff : ∀ bl o, A = some ⟨bl, o, none⟩ → b ≠ [] → bl < W.heap.size := fun bl o e hne => hrd.lt e hne
  obtain ⟨D0, hD0⟩ : ∃ d : DR W W.heap.size (W.heap.size + 1) 51 A b (b, false) noHop ((W.alloc (.cells (hopC noHop) 51)).alloc (.cells (rfV A n c false) 89)), True := ⟨⟨(L9.step L10).below, hrd.later (L9.step L10), fun bl o e hne => by have := hoff bl o e hne; omega, ⟨A, c, by rw [hn]; exact k10, by rw [hn]; exact hc, hcm, fun X h => h⟩, k9.later L10, noHop_wf, by omega, Nat.le_refl _, by omega, by rw [hn]; show n ≤ 1000000; omega⟩, trivial⟩
  have HD0 := Lib.hid D0
  have HKQ := Lib.hid kq
  have HB := Lib.hid hb
  have HQ := Lib.hid hQ
  clear hD0 D0 kq hb hQ hrd hoff L9 L10 k10 k9 hcm hc hn
  go_upto_region 16 with (first
    | (with_reducible refine wpList_alloc rfl 51 rfl (allocInv _) ?_)
    | (with_reducible refine wpList_alloc rfl 89 rfl (allocRf _) ?_)
    | (guard_target =~ wpList _ _ _ (_ :: _) _ _; refine wpList_build rfl 89 _ rfl #[(0, .slice A n c)] (by simp only [List.map_toArray, List.map_cons, List.map_nil]; rfl) (buildRf0 A n c _) ?_)
    | fail)
  try rw [hs9]
  obtain ⟨q9, hq9⟩ : ∃ x, x = W.heap.size := ⟨_, rfl⟩
  obtain ⟨q10, hq10⟩ : ∃ x, x = W.heap.size + 1 := ⟨_, rfl⟩
  have HD : Hid (DR W q9 q10 51 A b (b, false) noHop ((W.alloc (.cells (hopC noHop) 51)).alloc (.cells (rfV A n c false) 89))) := Lib.hid (by rw [hq9, hq10]; exact HD0.out)
  try simp only [Act.put, List.setIfInBounds_toArray, List.set_cons_zero, List.set_cons_succ]
  rw [← hq10, ← hq9]
  clear HD0 hs9
  generalize (W.alloc (.cells (hopC noHop) 51)).alloc (.cells (rfV A n c false) 89) = w2 at *
  have H9 := Lib.hid hq9
  have H10 := Lib.hid hq10
  clear hq9 hq10
  obtain ⟨v1, hld1, hcl1⟩ := HD.out.key
  have hcl1 : Calls Tryz.prog 41 #[v1] _ fun e w2 => ∃ v, e = .returned (.tuple #[v, .agg (hC (rd1 b).2.1), .int .i64 (rd1 b).2.2]) ∧ ∃ w3, (Instr.storeAt 89 (.pointer (some ⟨q10, 0, none⟩)) v).run Tryz.prog w2 = .ok () w3 ∧ ∃ w4, (Instr.storeAt 25 (.pointer (some ⟨q9, 0, none⟩)) (.agg (hC (rd1 b).2.1))).run Tryz.prog w3 = .ok () w4 ∧ DR W q9 q10 51 A b (rd1 b).1 ({ noHop with key := pd (rd1 b).2.1 }) w4 := hcl1
  clear HD
  obtain ⟨x1, hx1⟩ : ∃ x, hC (rd1 b).2.1 = x := ⟨_, rfl⟩
  obtain ⟨e1, he1⟩ : ∃ x, (rd1 b).2.2 = x := ⟨_, rfl⟩
  rw [hx1, he1] at hcl1
  clear hx1 he1
  go_upto_region 17 with (first
    | (guard_target =~ wpList _ _ _ (_ :: _) _ _; refine wpList_load rfl 89 (.tmp 10) rfl (.pointer (some ⟨q10, 0, none⟩)) rfl hld1 ?_)
    | (go_at_call 41; refine hcl1.mono ?_; clear hcl1; rintro e a1 ⟨y1, rfl, b1, hs1, c1, ht1, hd1⟩; have HD := Lib.hid hd1; clear hd1)
    | (guard_target =~ wpList _ _ _ (_ :: _) _ _; refine wpList_store rfl 89 (.tmp 10) (.tmp 74) rfl (.pointer (some ⟨q10, 0, none⟩)) y1 rfl rfl hs1 ?_)
    | (guard_target =~ wpList _ _ _ (_ :: _) _ _; refine wpList_field rfl 51 (.tmp 9) 0 rfl (.pointer (some ⟨q9, 0, none⟩)) rfl fInv0 ?_)
    | (guard_target =~ wpList _ _ _ (_ :: _) _ _; refine wpList_store rfl 25 (.tmp 77) (.tmp 75) rfl (.pointer (some ⟨q9, 0, none⟩)) (.agg x1) rfl rfl ht1 ?_)
    | fail)
  obtain ⟨v2, hld2, hcl2⟩ := HD.out.next
  have hcl2 : Calls Tryz.prog 41 #[v2] _ fun e w2 => ∃ v, e = .returned (.tuple #[v, .agg (hC (rd2 b).2.1), .int .i64 (rd2 b).2.2]) ∧ ∃ w3, (Instr.storeAt 89 (.pointer (some ⟨q10, 0, none⟩)) v).run Tryz.prog w2 = .ok () w3 ∧ ∃ w4, (Instr.storeAt 25 (.pointer (some ⟨q9, 32, none⟩)) (.agg (hC (rd2 b).2.1))).run Tryz.prog w3 = .ok () w4 ∧ DR W q9 q10 51 A b (rd2 b).1 ({ noHop with key := pd (rd1 b).2.1, next := pd (rd2 b).2.1 }) w4 := hcl2
  clear HD
  obtain ⟨x2, hx2⟩ : ∃ x, hC (rd2 b).2.1 = x := ⟨_, rfl⟩
  obtain ⟨e2, he2⟩ : ∃ x, (rd2 b).2.2 = x := ⟨_, rfl⟩
  rw [hx2, he2] at hcl2
  clear hx2 he2
  go_upto_region 18 with (first
    | (guard_target =~ wpList _ _ _ (_ :: _) _ _; refine wpList_load rfl 89 (.tmp 10) rfl (.pointer (some ⟨q10, 0, none⟩)) rfl hld2 ?_)
    | (go_at_call 41; refine hcl2.mono ?_; clear hcl2; rintro e a2 ⟨y2, rfl, b2, hs2, c2, ht2, hd2⟩; have HD := Lib.hid hd2; clear hd2)
    | (guard_target =~ wpList _ _ _ (_ :: _) _ _; refine wpList_store rfl 89 (.tmp 10) (.tmp 81) rfl (.pointer (some ⟨q10, 0, none⟩)) y2 rfl rfl hs2 ?_)
    | (guard_target =~ wpList _ _ _ (_ :: _) _ _; refine wpList_field rfl 51 (.tmp 9) 1 rfl (.pointer (some ⟨q9, 0, none⟩)) rfl fInv1 ?_)
    | (guard_target =~ wpList _ _ _ (_ :: _) _ _; refine wpList_store rfl 25 (.tmp 84) (.tmp 82) rfl (.pointer (some ⟨q9, 32, none⟩)) (.agg x2) rfl rfl ht2 ?_)
    | fail)
  obtain ⟨v3, hld3, hcl3⟩ := HD.out.amt 1125899906842624
  have hcl3 : Calls Tryz.prog 42 #[v3, .int .i64 1125899906842624] _ fun e w2 => ∃ v, e = .returned (.tuple #[v, .int .i64 (rd3 b).2.1, .int .i64 (rd3 b).2.2]) ∧ ∃ w3, (Instr.storeAt 89 (.pointer (some ⟨q10, 0, none⟩)) v).run Tryz.prog w2 = .ok () w3 ∧ ∃ w4, (Instr.storeAt 2 (.pointer (some ⟨q9, 64, none⟩)) (.int .i64 (rd3 b).2.1)).run Tryz.prog w3 = .ok () w4 ∧ DR W q9 q10 51 A b (rd3 b).1 ({ noHop with key := pd (rd1 b).2.1, next := pd (rd2 b).2.1, amt := (rd3 b).2.1 }) w4 := hcl3
  clear HD
  obtain ⟨x3, hx3⟩ : ∃ x, (rd3 b).2.1 = x := ⟨_, rfl⟩
  obtain ⟨e3, he3⟩ : ∃ x, (rd3 b).2.2 = x := ⟨_, rfl⟩
  rw [he3] at hcl3
  clear hx3 he3
  go_upto_region 19 with (first
    | (guard_target =~ wpList _ _ _ (_ :: _) _ _; refine wpList_load rfl 89 (.tmp 10) rfl (.pointer (some ⟨q10, 0, none⟩)) rfl hld3 ?_)
    | (go_at_call 42; refine hcl3.mono ?_; clear hcl3; rintro e a3 ⟨y3, rfl, b3, hs3, c3, ht3, hd3⟩; have HD := Lib.hid hd3; clear hd3)
    | (guard_target =~ wpList _ _ _ (_ :: _) _ _; refine wpList_store rfl 89 (.tmp 10) (.tmp 88) rfl (.pointer (some ⟨q10, 0, none⟩)) y3 rfl rfl hs3 ?_)
    | (guard_target =~ wpList _ _ _ (_ :: _) _ _; refine wpList_field rfl 51 (.tmp 9) 2 rfl (.pointer (some ⟨q9, 0, none⟩)) rfl fInv2 ?_)
    | (guard_target =~ wpList _ _ _ (_ :: _) _ _; refine wpList_store rfl 2 (.tmp 91) (.tmp 89) rfl (.pointer (some ⟨q9, 64, none⟩)) (.int .i64 (rd3 b).2.1) rfl rfl ht3 ?_)
    | fail)
  obtain ⟨v4, hld4, hcl4⟩ := HD.out.exp 1000
  have hcl4 : Calls Tryz.prog 42 #[v4, .int .i64 1000] _ fun e w2 => ∃ v, e = .returned (.tuple #[v, .int .i64 (rd4 b).2.1, .int .i64 (rd4 b).2.2]) ∧ ∃ w3, (Instr.storeAt 89 (.pointer (some ⟨q10, 0, none⟩)) v).run Tryz.prog w2 = .ok () w3 ∧ ∃ w4, (Instr.storeAt 2 (.pointer (some ⟨q9, 65, none⟩)) (.int .i64 (rd4 b).2.1)).run Tryz.prog w3 = .ok () w4 ∧ DR W q9 q10 51 A b (rd4 b).1 (invD b) w4 := hcl4
  clear HD
  obtain ⟨x4, hx4⟩ : ∃ x, (rd4 b).2.1 = x := ⟨_, rfl⟩
  obtain ⟨e4, he4⟩ : ∃ x, (rd4 b).2.2 = x := ⟨_, rfl⟩
  rw [he4] at hcl4
  clear hx4 he4
  go_upto_region 20 with (first
    | (guard_target =~ wpList _ _ _ (_ :: _) _ _; refine wpList_load rfl 89 (.tmp 10) rfl (.pointer (some ⟨q10, 0, none⟩)) rfl hld4 ?_)
    | (go_at_call 42; refine hcl4.mono ?_; clear hcl4; rintro e a4 ⟨y4, rfl, b4, hs4, c4, ht4, hd4⟩; have HD := Lib.hid hd4; clear hd4)
    | (guard_target =~ wpList _ _ _ (_ :: _) _ _; refine wpList_store rfl 89 (.tmp 10) (.tmp 95) rfl (.pointer (some ⟨q10, 0, none⟩)) y4 rfl rfl hs4 ?_)
    | (guard_target =~ wpList _ _ _ (_ :: _) _ _; refine wpList_field rfl 51 (.tmp 9) 3 rfl (.pointer (some ⟨q9, 0, none⟩)) rfl fInv3 ?_)
    | (guard_target =~ wpList _ _ _ (_ :: _) _ _; refine wpList_store rfl 2 (.tmp 98) (.tmp 96) rfl (.pointer (some ⟨q9, 65, none⟩)) (.int .i64 (rd4 b).2.1) rfl rfl ht4 ?_)
    | fail)
  obtain ⟨D, cc, hrow, hlc, hlm, -⟩ := HD.out.k10
  have k9 := HD.out.k9
  have low := HD.out.low
  have hw := HD.out.hw
  have kq4 := HKQ.out.belowAll low
  have hb4 := HB.out.trans (low.mono HB.out.size)
  obtain ⟨rest, hrest⟩ : ∃ l, (rd4 b).1.1 = l := ⟨_, rfl⟩
  obtain ⟨bd, hbd⟩ : ∃ x, (rd4 b).1.2 = x := ⟨_, rfl⟩
  rw [hrest, hbd] at hrow
  have ca := (hrow.cell 0).trans (rfl : _ = some (Value.slice D rest.length cc))
  have cb := (hrow.cell 1).trans (rfl : _ = some (Value.bool bd))
  have hld9 := loadInv hw k9
  have hinv := fun W => refinvoice_any (invD b) hw W
  have hbst : ∀ X wst, Later c4 X → X.grownBy wst (some q) → Below w.heap.size w wst := fun X wst hL hg => Below.grown (hb4.trans (hL.below.mono hb4.size)) hg (Nat.le_trans hb4.size hL.size) (fun j e => by cases e; exact hqw)
  have HST : Hid (∀ X, Later c4 X → ∃ X2, (Instr.storeAt 51 (.pointer (some ⟨q, 0, none⟩)) (.agg (hopC noHop))).run Tryz.prog X = .ok () X2 ∧ Row X2 q 51 (hopC noHop) ∧ X.grownBy X2 (some q)) := Lib.hid (fun X hL => storeInv noHop_wf noHop_wf (kq4.later hL))
  have HBS := Lib.hid hbst
  have hst := HST.out _ (Later.refl _)
  have K9 := Lib.hid k9
  have KQ := Lib.hid kq4
  have HW := Lib.hid hw
  have HR := Lib.hid hrest
  have HBD := Lib.hid hbd
  clear HD hrow k9 kq4 hw hbst hb4 low hrest hbd
  cases bd with
  | true =>
    have hpb := parsedB_bad HBD.out
    clear hinv hld9 ca
    go_wp2_with (first
      | (guard_target =~ wpList _ _ _ (_ :: _) _ _; refine wpList_build rfl 51 _ rfl #[] (by simp only [List.map_toArray, List.map_nil]) (buildInv0 _) ?_)
      | (guard_target =~ wpList _ _ _ (_ :: _) _ _; obtain ⟨wst, hst, kst, hgst⟩ := hst; refine wpList_store rfl 51 (.tmp 2) (.tmp 112) rfl (.pointer (some ⟨q, 0, none⟩)) (.agg (hopC noHop)) rfl rfl hst ?_)
      | fail)
    exact HQ.out _ _ rfl rfl (by rw [hpb]; rfl) (by rw [hpb]; exact kst) (HBS.out _ _ (Later.refl _) hgst)
  | false =>
    have hpf := parsedB_fine HBD.out
    rw [HR.out] at hpf
    have HPF := Lib.hid hpf
    clear hpf
    by_cases hl : 0 < rest.length
    · have hd : decide ((rest.length : Int) > 0) = true := decide_eq_true (by omega)
      have hd' : decide (0 < rest.length) = true := decide_eq_true hl
      have hd'' : decide (0 < (rest.length : Int)) = true := decide_eq_true (by omega)
      have hpb : parsedB b = (noHop, 351) := by
        rw [HPF.out]
        cases rest with
        | nil => simp at hl
        | cons x l => rfl
      clear hinv hld9
      go_wp2_with (first
        | (guard_target =~ wpList _ _ _ (_ :: _) _ _; refine wpList_build rfl 51 _ rfl #[] (by simp only [List.map_toArray, List.map_nil]) (buildInv0 _) ?_)
        | (guard_target =~ wpList _ _ _ (_ :: _) _ _; obtain ⟨wst, hst, kst, hgst⟩ := hst; refine wpList_store rfl 51 (.tmp 2) (.tmp 112) rfl (.pointer (some ⟨q, 0, none⟩)) (.agg (hopC noHop)) rfl rfl hst ?_)
        | fail)
      exact HQ.out _ _ rfl rfl (by rw [hpb]; rfl) (by rw [hpb]; exact kst) (HBS.out _ _ (Later.refl _) hgst)
    obtain rfl : rest = [] := List.eq_nil_of_length_eq_zero (by omega)
    have HPF2 : Hid (parsedB b = if okInv (invD b) then (invD b, 0) else (noHop, 351)) := Lib.hid (by rw [HPF.out]; rfl)
    clear HPF hl hst
    obtain ⟨oi, hoi⟩ : ∃ x, okInv (invD b) = x := ⟨_, rfl⟩
    rw [hoi] at hinv HPF2
    cases oi with
    | false =>
      have hpb : parsedB b = (noHop, 351) := HPF2.out
      go_wp2_with (first
        | (guard_target =~ wpList _ _ _ (_ :: _) _ _; refine wpList_loadG rfl 51 (.tmp 9) rfl (.pointer (some ⟨q9, 0, none⟩)) rfl hld9 ?_)
        | (go_at_call 62; refine (hinv _).mono ?_; clear hinv; rintro e w7 ⟨rfl, hL7⟩; have hst := HST.out _ hL7)
        | (guard_target =~ wpList _ _ _ (_ :: _) _ _; refine wpList_build rfl 51 _ rfl #[] (by simp only [List.map_toArray, List.map_nil]) (buildInv0 _) ?_)
        | (guard_target =~ wpList _ _ _ (_ :: _) _ _; obtain ⟨wst, hst, kst, hgst⟩ := hst; refine wpList_store rfl 51 (.tmp 2) (.tmp 112) rfl (.pointer (some ⟨q, 0, none⟩)) (.agg (hopC noHop)) rfl rfl hst ?_)
        | fail)
      exact HQ.out _ _ rfl rfl (by rw [hpb]; rfl) (by rw [hpb]; exact kst) (HBS.out _ _ hL7 hgst)
    | true =>
      have hpb : parsedB b = (invD b, 0) := HPF2.out
      go_upto_region 22 with (first
        | (guard_target =~ wpList _ _ _ (_ :: _) _ _; refine wpList_loadG rfl 51 (.tmp 9) rfl (.pointer (some ⟨q9, 0, none⟩)) rfl hld9 ?_)
        | (go_at_call 62; refine (hinv _).mono ?_; clear hinv; rintro e w7 ⟨rfl, hL7⟩)
        | fail)
      have hld7 := loadInv HW.out (K9.out.later hL7)
      obtain ⟨wst, hst, kst, hgst⟩ := storeInv noHop_wf HW.out (KQ.out.later hL7)
      clear hld9
      go_wp2_with (first
        | (guard_target =~ wpList _ _ _ (_ :: _) _ _; refine wpList_load rfl 51 (.tmp 9) rfl (.pointer (some ⟨q9, 0, none⟩)) rfl hld7 ?_)
        | (guard_target =~ wpList _ _ _ (_ :: _) _ _; refine wpList_store rfl 51 (.tmp 2) (.tmp 113) rfl (.pointer (some ⟨q, 0, none⟩)) (.agg (hopC (invD b))) rfl rfl hst ?_)
        | fail)
      exact HQ.out _ _ rfl rfl (by rw [hpb]; rfl) (by rw [hpb]; exact kst) (HBS.out _ _ hL7 hgst)
end Go.Proofs.YtloiaaolnfimgaaGreat
