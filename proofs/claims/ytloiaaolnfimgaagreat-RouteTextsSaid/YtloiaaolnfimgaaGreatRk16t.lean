/- Walks, route: the end of the document's Plan. -/
import Derived.Test.YtloiaaolnfimgaaGreatRk15
set_option linter.unusedVariables false
set_option linter.unusedSimpArgs false
namespace Go.Proofs.YtloiaaolnfimgaaGreat
open Go.RowKit Rt
/-- The code from a region on. -/
def fromR (n : Nat) : Code → Option Code
  | .seq a b => match a with
    | .region m _ _ => if m == n then some (.seq a b) else fromR n b
    | _ => match fromR n a with
      | some c => some c
      | none => fromR n b
  | .cond _ a b => match fromR n a with
    | some c => some c
    | none => fromR n b
  | .block _ c => fromR n c
  | .loop c => fromR n c
  | .scope c => fromR n c
  | _ => none
set_option maxRecDepth 100000 in
set_option maxHeartbeats 4000000 in
theorem ref_tail (cd : Code) (hcd : ((Tryz.prog.funcs[(15 : Nat)]?.bind (·.body)).bind (fromR 23)) = some cd) (w W6 : World) (q g15 : Nat) (a x : Int) (bA oA bS oS gE c c5 k : Nat) (l : List Rt.Edge) (S : List Int) (hl : ∀ e ∈ l, e.wf) (hn : l.length = k) (hk6 : k ≤ 6)
    (up : ∀ (i : Nat) (hi : i < l.length), W6.rangeAt bA (oA + i * 67) (edgeL l[i])) (upS : ∀ p, p < k → W6.cell? ⟨bS, oS + p, none⟩ = some (.int .i64 (S.getD p 0))) (upE : ∀ p, p < k → W6.cell? ⟨gE, 0 + p, none⟩ = some (.int .i64 (expAt x l p)))
    (kq6 : Row W6 q 27 (hopC noHop)) (k15 : Row W6 g15 27 (hopC (firstAt x S l 0))) (hwF : (firstAt x S l 0).wf) (LW6 : Below w.heap.size w W6) (hqw : w.heap.size ≤ q)
    (Q : Exit → Act → World → Prop) (hQ : ∀ (a' : Act) (W' : World) (Sb : Option Addr) (cS : Nat), a'.defers = [] → a'.tmps.getD 6 undef = .pointer (some ⟨q, 0, none⟩) → a'.tmps.getD 7 undef = .slice Sb k cS → a'.tmps.getD 8 undef = .int .i64 0 → Row W' q 27 (hopC (firstAt x S l 0)) → Recs 66 W' Sb (((List.range k).map (stepAt a x S l)).map hopL) → Below w.heap.size w W' → Q .ret a' W')
    (u3 u4 u5 u7 u8 u9 u10 u12 u14 u16 u17 u18 u19 u20 u21 u22 u23 u24 u25 u26 u27 u28 u29 u30 u31 u32 u33 u34 u35 u36 u37 u38 u39 u40 u41 u42 u43 u44 u45 u46 u47 u48 u49 u50 u51 u52 u53 u54 u55 u56 u57 u58 u59 u60 u61 u62 u63 u64 u65 u66 u67 u68 u69 u70 u71 u72 u73 u74 u75 u76 u77 u78 u79 u80 u81 u82 u83 u84 u85 u86 u87 u88 u89 u90 u91 u92 u93 u94 u95 u96 u97 u98 u99 u100 u101 u102 u103 u104 u105 u106 u107 u108 u109 u110 u111 u112 u113 u114 u115 u116 u117 u118 u119 u120 u121 u122 u123 u124 u125 u126 u127 u128 u129 u130 u131 u132 u133 u134 u135 u136 u137 u138 u139 u140 u141 u142 u143 u144 u145 u146 u147 u148 u149 u150 u151 u152 u153 u154 u155 u156 u157 u158 u159 u160 u161 u162 u163 u164 u165 u166 u167 u168 u169 u170 u171 u172 u173 u174 u175 u176 u177 u178 u179 u180 u181 u182 u183 u184 u185 u186 u187 u188 u189 u190 u191 u192 u193 : Value) :
    cd.wp Tryz.prog Q { tmps := #[.int .i64 a, .int .i64 x, .slice (some ⟨bA, oA, none⟩) k c, u3, u4, u5, .pointer (some ⟨q, 0, none⟩), u7, u8, u9, u10, .slice (some ⟨bS, oS, none⟩) k c5, u12, .slice (some ⟨gE, 0, none⟩) k k, u14, .pointer (some ⟨g15, 0, none⟩), u16, u17, u18, u19, u20, u21, u22, u23, u24, u25, u26, u27, u28, u29, u30, u31, u32, u33, u34, u35, u36, u37, u38, u39, u40, u41, u42, u43, u44, u45, u46, u47, u48, u49, u50, u51, u52, u53, u54, u55, u56, u57, u58, u59, u60, u61, u62, u63, u64, u65, u66, u67, u68, u69, u70, u71, u72, u73, u74, u75, u76, u77, u78, u79, u80, u81, u82, u83, u84, u85, u86, u87, u88, u89, u90, u91, u92, u93, u94, u95, u96, u97, u98, u99, u100, u101, u102, u103, u104, u105, u106, u107, u108, u109, u110, u111, u112, u113, u114, u115, u116, u117, u118, u119, u120, u121, u122, u123, u124, u125, u126, u127, u128, u129, u130, u131, u132, u133, u134, u135, u136, u137, u138, u139, u140, u141, u142, u143, u144, u145, u146, u147, u148, u149, u150, u151, u152, u153, u154, u155, u156, u157, u158, u159, u160, u161, u162, u163, u164, u165, u166, u167, u168, u169, u170, u171, u172, u173, u174, u175, u176, u177, u178, u179, u180, u181, u182, u183, u184, u185, u186, u187, u188, u189, u190, u191, u192, u193], defers := [] } W6 := by
  conv at hcd => lhs; whnf
  injection hcd with hcd
  subst hcd
  have HL := Lib.hid hl
  have HN := Lib.hid hn
  have hupH := Lib.hid up
  have hupSH := Lib.hid upS
  have hupEH := Lib.hid upE
  have HQ := Lib.hid hQ
  clear hl hn up upS upE hQ
  go_wp2_with fail
  go_loopw [16, 17] (fun v t wr => ∃ p : Nat, p ≤ k ∧ t = .int .i64 (p : Int) ∧ OwnG 27 66 wr W6.heap.size v (((List.range p).map (stepAt a x S l)).map hopL) ∧ Later W6 wr) (fun _ t _ => k - (intOf t).toNat)
  case atStart => exact ⟨0, by omega, rfl, OwnG.nil _ _ _ _, Later.refl _⟩
  case round =>
    obtain ⟨p, hp, rfl, hown, hLq⟩ := hrel
    obtain ⟨Sb, cS, rfl, -, -, -⟩ := hown.slice
    have hfp : (((List.range p).map (stepAt a x S l)).map hopL).length = p := by simp
    rw [hfp] at hown ⊢
    by_cases hlt : p < k
    · have hd : decide ((p : Int) < (k : Int)) = true := decide_eq_true (by omega)
      have hd' : decide (p < k) = true := decide_eq_true hlt
      have hpl : p < l.length := by rw [HN.out]; exact hlt
      have hewp := HL.out _ (List.getElem_mem hpl)
      have hlater : Later W6 wr := hLq
      have rp := range_later (hupH.out p hpl) hlater
      have hix := fun W => idxEdge (b := bA) (o := oA) (n := k) (c := c) (i := p) W hlt
      have hld := loadHashM hewp.1 (edge_key hewp rp)
      have hwb : (⟨l[p].key, zh, a, x⟩ : Hop).wf := ⟨hewp.1, zh_len⟩
      have hbk := fun W => buildHopK hewp.1 a x W
      obtain ⟨w8, hst8, k8, hL8⟩ := newHop wr hwb
      have hown8 := hown.later hL8
      have hLq8 := hLq.step hL8
      have hlat8 := hlater.step hL8
      have hfe := fun W => @fEdge0 bA (oA + p * 67) W
      have hob := fun j e => (hown.at_ j e).2
      clear hown hL8
      go_upto_region 28 with (first
        | (guard_target =~ wpList _ _ _ (_ :: _) _ _; refine wpList_idx rfl 40 _ _ rfl (.slice (some ⟨bA, oA, none⟩) k c) (.int .i64 (p : Int)) rfl rfl (hix _) ?_)
        | (guard_target =~ wpList _ _ _ (_ :: _) _ _; refine wpList_field rfl 44 (.tmp 155) 0 rfl (.pointer (some ⟨bA, oA + p * 67, none⟩)) rfl (hfe _) ?_)
        | (guard_target =~ wpList _ _ _ (_ :: _) _ _; refine wpList_load rfl 25 (.tmp 156) rfl (.pointer (some ⟨bA, oA + p * 67, none⟩)) rfl hld ?_)
        | (guard_target =~ wpList _ _ _ (_ :: _) _ _; refine wpList_build rfl 27 #[(0, .tmp 157), (2, .tmp 158), (3, .tmp 159)] rfl #[(0, .agg (hC l[p].key)), (2, .int .i64 a), (3, .int .i64 x)] (by simp only [List.map_toArray, List.map_cons, List.map_nil]; rfl) (hbk _) ?_; simp only [Act.put, List.setIfInBounds_toArray, List.set_cons_zero, List.set_cons_succ])
        | (with_reducible refine wpList_alloc rfl 27 rfl (allocHop _) ?_)
        | (guard_target =~ wpList _ _ _ (_ :: _) _ _; refine wpList_store rfl 27 (.tmp 18) (.tmp 160) rfl (.pointer (some ⟨wr.heap.size, 0, none⟩)) (.agg (hopC ⟨l[p].key, zh, a, x⟩)) rfl rfl hst8 ?_)
        | fail)
      obtain ⟨g18, hg18⟩ : ∃ g, g = wr.heap.size := ⟨_, rfl⟩
      rw [← hg18] at k8 hob ⊢
      have hg18W : W6.heap.size ≤ g18 := by have := hLq.size; omega
      have e4 : IntKind.i64.wrap ((p : Int) + 1) = ((p + 1 : Nat) : Int) := by rw [IntWalk.i64_in _ (by omega)]; omega
      have hsucc : (((List.range (p + 1)).map (stepAt a x S l)).map hopL) = ((List.range p).map (stepAt a x S l)).map hopL ++ [hopL (stepAt a x S l p)] := by rw [List.range_succ, List.map_append, List.map_append]; rfl
      have HSU := Lib.hid hsucc
      clear hst8 hix hld hbk hfe hg18 rp hsucc
      by_cases hin : p + 1 < k
      · have hd6 : decide (((p + 1 : Nat) : Int) < (k : Int)) = true := decide_eq_true (by omega)
        have hd6' : decide (p + 1 < k) = true := decide_eq_true hin
        have hnl : p + 1 < l.length := by rw [HN.out]; exact hin
        have hewn := HL.out _ (List.getElem_mem hnl)
        have rp8 := range_later (hupH.out p hpl) hlat8
        have rn8 := range_later (hupH.out (p + 1) hnl) hlat8
        have cS8 := Later.cell hlat8 (hupSH.out (p + 1) hin)
        have cE8 := Later.cell hlat8 (hupEH.out (p + 1) hin)
        have hse := stepAt_in (a := a) (x := x) (S := S) hnl
        have hwS0 : (⟨l[p].key, l[p + 1].chan, S.getD (p + 1) 0, expAt x l (p + 1)⟩ : Hop).wf := ⟨hewp.1, hewn.2⟩
        have HSE := Lib.hid hse
        clear hse
        go_upto_region 29 with fail
        refine (wpIn_wide (n := 0)).1 ?_
        refine wpIn_region_last wide_wide [Pr.eq (.slice (some ⟨bA, oA, none⟩) k c), Pr.eq (.int .i64 (p : Int)), Pr.eq (.pointer (some ⟨bA, oA + p * 67, none⟩)), Pr.eq (.pointer (some ⟨bA, oA + p * 67, none⟩)), Pr.eq (.agg (hC l[p].key)), Pr.eq (.slice (some ⟨bA, oA, none⟩) k c), Pr.eq (.int .i64 (p : Int)), Pr.eq (.int .i64 ((p + 1 : Nat) : Int)), Pr.eq (.pointer (some ⟨bA, oA + (p + 1) * 67, none⟩)), Pr.eq (.pointer (some ⟨bA, oA + (p + 1) * 67 + 32, none⟩)), Pr.eq (.agg (hC l[p + 1].chan)), Pr.eq (.slice (some ⟨bS, oS, none⟩) k c5), Pr.eq (.int .i64 (p : Int)), Pr.eq (.int .i64 ((p + 1 : Nat) : Int)), Pr.eq (.pointer (some ⟨bS, oS + (p + 1), none⟩)), Pr.eq (.int .i64 (S.getD (p + 1) 0)), Pr.eq (.slice (some ⟨gE, 0, none⟩) k k), Pr.eq (.int .i64 (p : Int)), Pr.eq (.int .i64 ((p + 1 : Nat) : Int)), Pr.eq (.pointer (some ⟨gE, 0 + (p + 1), none⟩)), Pr.eq (.int .i64 (expAt x l (p + 1))), Pr.eq (.agg (hopC ⟨l[p].key, l[p + 1].chan, S.getD (p + 1) 0, expAt x l (p + 1)⟩))] (by kernel_rfl) (by kernel_rfl) (by kernel_rfl) (by kernel_rfl) (by kernel_rfl) (by kernel_rfl) rfl ⟨?_, ?_, ?_, ?_, ?_, ?_, ?_, ?_, ?_, ?_, ?_, ?_, ?_, ?_, ?_, ?_, ?_, ?_, ?_, ?_, ?_, ?_, trivial⟩ ?_
        · exact fun ac W hL he => stepOk_want rfl (op_move rfl (he.keep (.tmp 2) (by kernel_rfl)))
        · exact fun ac W hL he => stepOk_want rfl (op_move rfl (he.keep (.tmp 17) (by kernel_rfl)))
        · exact fun ac W hL he => stepOk_want rfl (op_idx rfl (he.get 0 166 (by kernel_rfl) rfl) (he.get 1 167 (by kernel_rfl) rfl) (idxEdge W hlt) rfl)
        · exact fun ac W hL he => stepOk_want rfl (op_fieldAddr rfl (he.get 2 168 (by kernel_rfl) rfl) fEdge0 rfl)
        · exact fun ac W hL he => stepOk_want rfl (op_load rfl (he.get 3 169 (by kernel_rfl) rfl) (loadHashM hewp.1 (range_later (edge_key hewp rp8) hL)) rfl)
        · exact fun ac W hL he => stepOk_want rfl (op_move rfl (he.keep (.tmp 2) (by kernel_rfl)))
        · exact fun ac W hL he => stepOk_want rfl (op_move rfl (he.keep (.tmp 17) (by kernel_rfl)))
        · exact fun ac W hL he => stepOk_want rfl (op_binOp rfl (he.get 6 172 (by kernel_rfl) rfl) rfl (eqg_any rfl) (addInt p (by omega) _ W) rfl)
        · exact fun ac W hL he => stepOk_want rfl (op_idx rfl (he.get 5 171 (by kernel_rfl) rfl) (he.get 7 173 (by kernel_rfl) rfl) (idxEdge W hin) rfl)
        · exact fun ac W hL he => stepOk_want rfl (op_fieldAddr rfl (he.get 8 174 (by kernel_rfl) rfl) fEdge1 rfl)
        · exact fun ac W hL he => stepOk_want rfl (op_load rfl (he.get 9 175 (by kernel_rfl) rfl) (loadHashM hewn.2 (range_later (edge_chan hewn rn8) hL)) rfl)
        · exact fun ac W hL he => stepOk_want rfl (op_move rfl (he.keep (.tmp 11) (by kernel_rfl)))
        · exact fun ac W hL he => stepOk_want rfl (op_move rfl (he.keep (.tmp 17) (by kernel_rfl)))
        · exact fun ac W hL he => stepOk_want rfl (op_binOp rfl (he.get 12 178 (by kernel_rfl) rfl) rfl (eqg_any rfl) (addInt p (by omega) _ W) rfl)
        · exact fun ac W hL he => stepOk_want rfl (op_idx rfl (he.get 11 177 (by kernel_rfl) rfl) (he.get 13 179 (by kernel_rfl) rfl) (idxInt hin (by omega) W) rfl)
        · exact fun ac W hL he => stepOk_want rfl (op_load rfl (he.get 14 180 (by kernel_rfl) rfl) (ldI64 (Later.cell hL cS8)) rfl)
        · exact fun ac W hL he => stepOk_want rfl (op_move rfl (he.keep (.tmp 13) (by kernel_rfl)))
        · exact fun ac W hL he => stepOk_want rfl (op_move rfl (he.keep (.tmp 17) (by kernel_rfl)))
        · exact fun ac W hL he => stepOk_want rfl (op_binOp rfl (he.get 17 183 (by kernel_rfl) rfl) rfl (eqg_any rfl) (addInt p (by omega) _ W) rfl)
        · exact fun ac W hL he => stepOk_want rfl (op_idx rfl (he.get 16 182 (by kernel_rfl) rfl) (he.get 18 184 (by kernel_rfl) rfl) (idxInt hin (by omega) W) rfl)
        · exact fun ac W hL he => stepOk_want rfl (op_load rfl (he.get 19 185 (by kernel_rfl) rfl) (ldI64 (Later.cell hL cE8)) rfl)
        · intro ac W hL he; refine stepOk_want rfl ?_; have e0 : ac.eval (.tmp 170) = .agg (hC l[p].key) := (he.get 4 170 (by kernel_rfl) rfl); have e1 : ac.eval (.tmp 176) = .agg (hC l[p + 1].chan) := (he.get 10 176 (by kernel_rfl) rfl); have e2 : ac.eval (.tmp 181) = .int .i64 (S.getD (p + 1) 0) := (he.get 15 181 (by kernel_rfl) rfl); have e3 : ac.eval (.tmp 186) = .int .i64 (expAt x l (p + 1)) := (he.get 20 186 (by kernel_rfl) rfl); exact op_build (vs := #[(0, .agg (hC l[p].key)), (1, .agg (hC l[p + 1].chan)), (2, .int .i64 (S.getD (p + 1) 0)), (3, .int .i64 (expAt x l (p + 1)))]) rfl (by simp only [List.map_toArray, List.map_cons, List.map_nil, e0, e1, e2, e3]) (buildHopF hwS0 W) rfl
        intro xs9 W9 hL9 hxs hk9 hgt
        obtain ⟨WS, s1, kS, s3⟩ := storeHop hwb hwS0 (k8.later hL9)
        refine last_store rfl rfl (hk9 (.tmp 18) (by kernel_rfl)) ((hgt 21 187 (by decide) (by kernel_rfl)).trans (show xs9 21 = .agg (hopC ⟨l[p].key, l[p + 1].chan, S.getD (p + 1) 0, expAt x l (p + 1)⟩) from hxs 21 (by decide))) s1 ?_
        have hLqS : Later W6 WS := Below.grown (hLq8.step hL9) s3 (Later.size (hLq8.step hL9)) (fun j e => by cases e; exact hg18W)
        have hownS := (hown8.later hL9).keep (fun b hb e => s3.block b hb (fun e2 => by cases e2; exact absurd (hob _ e) (Nat.lt_irrefl _)))
        rw [← HSE.out] at kS
        simp only [initL, lastL, putL, Nat.reduceAdd, Act.put, List.setIfInBounds_toArray, List.set_cons_succ, List.set_cons_zero]
        clear hxs hk9 hgt s1 s3 hL9 hown8 k8 hLq8 rp8 rn8 cS8 cE8
        have hwS : (stepAt a x S l p).wf := stepAt_wf HL.out hpl
        have hldS := loadHopR hwS kS
        have hbS := buildHops1 hwS WS
        have hLA := below_new WS (.cells (hopC (stepAt a x S l p)) 27)
        have hownA := (hownS).later hLA
        have hLLA : Later W6 (WS.alloc (.cells (hopC (stepAt a x S l p)) 27)) := (hLqS).step hLA
        have hrec : Recs 66 (WS.alloc (.cells (hopC (stepAt a x S l p)) 27)) (some ⟨WS.heap.size, 0, none⟩) [hopL (stepAt a x S l p)] :=
          Recs.row (Row.new WS 27 _) (fun l hl => by rw [List.mem_singleton.1 hl]; exact hopL_len hwS) (fun j v hv => by simpa [hopL] using hv)
        have hszA : W6.heap.size ≤ (WS.alloc (.cells (hopC (stepAt a x S l p)) 27)).heap.size := hLLA.size
        have hfl : (((List.range p).map (stepAt a x S l)).map hopL).length + 1 ≤ 1000000000 := by
          rw [hfp]
          omega
        have HHL := Lib.hid (hopL_ok hwS)
        clear kS hLA
        go_wp2_with (first
          | (guard_target =~ wpList _ _ _ (_ :: _) _ _; refine wpList_load rfl 27 (.tmp 18) rfl (.pointer (some ⟨g18, 0, none⟩)) rfl hldS ?_)
          | (guard_target =~ wpList _ _ _ (_ :: _) _ _; refine wpList_buildSl rfl 22 1 #[(0, .tmp 189)] rfl #[(0, .agg (hopC (stepAt a x S l p)))] (by simp only [List.map_toArray, List.map_cons, List.map_nil]; rfl) hbS ?_)
          | (guard_target =~ wpList _ _ _ (_ :: _) _ _; refine wpList_append_g Tryz.underlying22 infoHopG (hopC_size noHop_wf) (by decide) (by decide) rfl (.tmp 188) (.tmp 190) rfl W6.heap.size _ _ rfl hownA (some ⟨WS.heap.size, 0, none⟩) 1 1 [hopL (stepAt a x S l p)] (fun l hl => by rw [List.mem_singleton.1 hl]; exact HHL.out) rfl rfl hrec (by simp) hfl hszA fun v9 w9 hown9 hg9 _ => ?_)
          | fail)
        have hLL9 : Later W6 w9 := Below.grown hLLA hg9 hszA (fun j e => (hownA.at_ j e).1)
        go_roundw
        case rel => exact ⟨p + 1, by omega, rfl, by rw [HSU.out]; exact hown9, hLL9⟩
        case measure => simp [intOf]; omega
      · have hd6 : decide (((p + 1 : Nat) : Int) < (k : Int)) = false := decide_eq_false (by omega)
        have hd6' : decide (p + 1 < k) = false := decide_eq_false hin
        have kS := k8
        rw [← stepAt_end (a := a) (x := x) (S := S) hpl (by rw [HN.out]; exact hin)] at kS
        clear k8
        have hwS : (stepAt a x S l p).wf := stepAt_wf HL.out hpl
        have hldS := loadHopR hwS kS
        have hbS := buildHops1 hwS w8
        have hLA := below_new w8 (.cells (hopC (stepAt a x S l p)) 27)
        have hownA := (hown8).later hLA
        have hLLA : Later W6 (w8.alloc (.cells (hopC (stepAt a x S l p)) 27)) := (hLq8).step hLA
        have hrec : Recs 66 (w8.alloc (.cells (hopC (stepAt a x S l p)) 27)) (some ⟨w8.heap.size, 0, none⟩) [hopL (stepAt a x S l p)] :=
          Recs.row (Row.new w8 27 _) (fun l hl => by rw [List.mem_singleton.1 hl]; exact hopL_len hwS) (fun j v hv => by simpa [hopL] using hv)
        have hszA : W6.heap.size ≤ (w8.alloc (.cells (hopC (stepAt a x S l p)) 27)).heap.size := hLLA.size
        have hfl : (((List.range p).map (stepAt a x S l)).map hopL).length + 1 ≤ 1000000000 := by
          rw [hfp]
          omega
        have HHL := Lib.hid (hopL_ok hwS)
        clear kS hLA
        go_wp2_with (first
          | (guard_target =~ wpList _ _ _ (_ :: _) _ _; refine wpList_load rfl 27 (.tmp 18) rfl (.pointer (some ⟨g18, 0, none⟩)) rfl hldS ?_)
          | (guard_target =~ wpList _ _ _ (_ :: _) _ _; refine wpList_buildSl rfl 22 1 #[(0, .tmp 189)] rfl #[(0, .agg (hopC (stepAt a x S l p)))] (by simp only [List.map_toArray, List.map_cons, List.map_nil]; rfl) hbS ?_)
          | (guard_target =~ wpList _ _ _ (_ :: _) _ _; refine wpList_append_g Tryz.underlying22 infoHopG (hopC_size noHop_wf) (by decide) (by decide) rfl (.tmp 188) (.tmp 190) rfl W6.heap.size _ _ rfl hownA (some ⟨w8.heap.size, 0, none⟩) 1 1 [hopL (stepAt a x S l p)] (fun l hl => by rw [List.mem_singleton.1 hl]; exact HHL.out) rfl rfl hrec (by simp) hfl hszA fun v9 w9 hown9 hg9 _ => ?_)
          | fail)
        have hLL9 : Later W6 w9 := Below.grown hLLA hg9 hszA (fun j e => (hownA.at_ j e).1)
        go_roundw
        case rel => exact ⟨p + 1, by omega, rfl, by rw [HSU.out]; exact hown9, hLL9⟩
        case measure => simp [intOf]; omega
    · obtain rfl : p = k := by omega
      have hd : decide ((p : Int) < (p : Int)) = false := decide_eq_false (by omega)
      have hd' : decide (p < p) = false := decide_eq_false (by omega)
      have kq9 := kq6.later hLq
      have k159 := k15.later hLq
      have hldF := loadHopR hwF k159
      obtain ⟨w2, hst, kR, gR⟩ := storeHop noHop_wf hwF kq9
      have LWq : Below w.heap.size w wr := LW6.trans (Below.mono hLq LW6.size)
      have LR : Below w.heap.size w w2 := Below.grown LWq gR LWq.size (fun j e => by cases e; exact hqw)
      have hown2 := hown.keep (fun b hb e => gR.block b hb (fun e2 => by cases e2; have := (hown.at_ _ e).1; have := kq6.lt; omega))
      obtain ⟨_, _, eS, _, _, hrR⟩ := hown2.slice
      rw [hfp] at eS
      injection eS with eS1 _ eS3
      subst eS1 eS3
      clear gR hown hown2
      go_wp2_with (first
        | (guard_target =~ wpList _ _ _ (_ :: _) _ _; refine wpList_load rfl 27 (.tmp 15) rfl (.pointer (some ⟨g15, 0, none⟩)) rfl hldF ?_)
        | (guard_target =~ wpList _ _ _ (_ :: _) _ _; refine wpList_store rfl 27 (.tmp 6) (.tmp 192) rfl (.pointer (some ⟨q, 0, none⟩)) (.agg (hopC (firstAt x S l 0))) rfl rfl hst ?_)
        | fail)
      refine HQ.out _ _ Sb cS rfl rfl rfl rfl kR hrR LR
end Go.Proofs.YtloiaaolnfimgaaGreat
