/- money: the chapter's rows hold. -/
import Derived.Test.YtcfhhljjknmniaaDoorMm11
import Derived.Test.YtcfhhljjknmniaaDoorMm12
set_option linter.unusedVariables false
set_option linter.unusedSimpArgs false
namespace Go.Proofs.YtcfhhljjknmniaaDoor
open Go.RowKit
/-- The digits, so that the kernel can count them. -/
def decF : Nat → Nat → List UInt8
  | 0, u => [UInt8.ofNat (48 + u)]
  | k + 1, u => if u < 10 then [UInt8.ofNat (48 + u)] else decF k (u / 10) ++ [UInt8.ofNat (48 + u % 10)]
theorem decF_eq : ∀ k u, u < 10 ^ (k + 1) → Lib.decDigits u = decF k u
  | 0, u, h => by rw [Lib.decDigits, dif_pos (by simpa using h)]; rfl
  | k + 1, u, h => by
    by_cases hu : u < 10
    · rw [Lib.decDigits, dif_pos hu, decF, if_pos hu]
    · rw [Lib.decDigits, dif_neg hu, decF, if_neg hu, decF_eq k (u / 10) (by rw [Nat.pow_succ] at h; omega)]
def unitsF (u : Nat) : List UInt8 := Lib.trimRightB (Lib.repeatL [48] (8 - (decF 7 u).length) ++ decF 7 u) 48
def coinF (a : Nat) : List UInt8 := if unitsF (a % 100000000) = [] then decF 7 (a / 100000000) else decF 7 (a / 100000000) ++ 46 :: unitsF (a % 100000000)
theorem coinF_eq (a : Nat) (h : a < 10000000000000000) : coinT a = coinF a := by
  unfold coinT coinF unitsT unitsF
  rw [decF_eq 7 (a / 100000000) (by omega), decF_eq 7 (a % 100000000) (by omega)]
theorem val_text1 : textS 150000000 = ([49, 46, 53], 0) := by
  unfold textS
  rw [coinF_eq _ (by decide)]
  kernel_rfl
theorem val_text2 : textS 5 = ([48, 46, 48, 48, 48, 48, 48, 48, 48, 53], 0) := by
  unfold textS
  rw [coinF_eq _ (by decide)]
  kernel_rfl
def parseF (s : List UInt8) : Int × Int :=
  if s.length ≤ 30 ∧ (cutP s).2.1.length ≤ 8 then
    match Lib.parseIntB 64 (cutP s).1, Lib.parseIntB 64 (fullU (cutP s).2.1) with
    | .ok n, .ok m => if !bad 11258999 n && !bad 99999999 m && amts [n * 100000000 + m] && decide (coinF (n * 100000000 + m).toNat = s) then (n * 100000000 + m, 0) else (0, 152)
    | _, _ => (0, 152)
  else (0, 152)
theorem parseF_eq (s : List UInt8) : parseS s = parseF s := by
  unfold parseS parseF parseC
  by_cases hc : s.length ≤ 30 ∧ (cutP s).2.1.length ≤ 8
  · rw [if_pos hc, if_pos hc]
    cases h1 : Lib.parseIntB 64 (cutP s).1 <;> cases h2 : Lib.parseIntB 64 (fullU (cutP s).2.1) <;> try rfl
    rename_i n m
    show (if _ then _ else _) = (if _ then _ else _)
    cases ha : amts [n * 100000000 + m] with
    | false => simp
    | true =>
      have := okAmt_iff ha
      rw [coinF_eq _ (by omega)]
  · rw [if_neg hc, if_neg hc]
theorem val_parse1 : parseS [49, 46, 53, 48] = (0, 152) := by rw [parseF_eq]; kernel_rfl
theorem val_parse2 : parseS [48, 46, 48, 48, 48, 48, 48, 48, 48, 53] = (5, 0) := by rw [parseF_eq]; kernel_rfl
theorem val_add : addS [1125899906842624, 1] = (0, 150) := by kernel_rfl
theorem val_less : lessS 5 [6] = (0, 151) := by kernel_rfl
theorem val_share : shareS 5000 1000 = (5, 0) := by kernel_rfl
theorem val_take : takeS 1 1000 5000 = (6, 0) := by kernel_rfl
theorem val_send : sendS 1 1000 5000 = (5006, 0) := by kernel_rfl
theorem val_route : routeS 5000 [(0, 0), (1, 1000)] = ([5006, 5006, 5000], 0) := by kernel_rfl
theorem buildFees (W : World) : (Instr.buildSlice 79 2 #[(0, feeV 0 0), (1, feeV 1 1000)]).run Tryd.prog W = .ok (.slice (some ⟨W.heap.size, 0, none⟩) 2 2) (W.alloc (.cells #[.int .i64 0, .int .i64 0, .int .i64 1, .int .i64 1000] 53)) := by kernel_rfl
theorem rdFees (W : World) : RdV (W.alloc (.cells #[.int .i64 0, .int .i64 0, .int .i64 1, .int .i64 1000] 53)) (some ⟨W.heap.size, 0, none⟩) (feesC [(0, 0), (1, 1000)]) := RdV.row (Row.new W 53 _)
set_option maxRecDepth 100000 in
set_option maxHeartbeats 2000000 in
theorem works_yes (w : World) (hT : Tabs w) : Calls Tryd.prog 9 #[] w fun e w' => e = .returned (.bool true) ∧ Below w.heap.size w w' := by
  refine Calls.post fun Φ HΦ => ?_
  have hadd := add_any (some ⟨w.heap.size, 0, none⟩) 2 2 [1125899906842624, 1] _ rfl (by omega) (rd2Z _ _ w)
  rw [val_add] at hadd
  have hL0 := (Later.refl w).alloc (.cells #[.int .i64 1125899906842624, .int .i64 1] 2)
  have hless := fun W => less_any 5 (some ⟨World.heap W |>.size, 0, none⟩) 1 1 [6] _ rfl (by omega) (rd1Z 6 W)
  rw [val_less] at hless
  have hshare := fun W => share_any 5000 1000 W
  rw [val_share] at hshare
  have htake := fun W => take_fee 1 1000 5000 W
  rw [val_take] at htake
  have hsend := fun W => send_fee 1 1000 5000 W
  rw [val_send] at hsend
  have hroute := fun W => route_any 5000 (some ⟨World.heap W |>.size, 0, none⟩) 2 2 [(0, 0), (1, 1000)] _ rfl (by omega) (rdFees W)
  rw [val_route] at hroute
  have ht1 := fun W (h : Later w W) => text_any 150000000 W (hT.later h)
  have ht2 := fun W (h : Later w W) => text_any 5 W (hT.later h)
  rw [val_text1] at ht1
  rw [val_text2] at ht2
  have hp1 := fun W (h : Later w W) => parse_any [49, 46, 53, 48] W (hT.later h) (by decide)
  have hp2 := fun W (h : Later w W) => parse_any [48, 46, 48, 48, 48, 48, 48, 48, 48, 53] W (hT.later h) (by decide)
  rw [val_parse1] at hp1
  rw [val_parse2] at hp2
  clear hT
  go_enter Tryd.func9, Tryd.ntmps9
  go_upto_region 7 with (first
    | (refine wpList_buildSl rfl 22 2 _ rfl #[(0, .int .i64 _), (1, .int .i64 _)] rfl (build2Z _ _ _) ?_)
    | (refine wpList_buildSl rfl 22 1 _ rfl #[(0, .int .i64 _)] rfl (build1Z _ _) ?_)
    | (go_at_call 10; refine hadd.mono ?_; clear hadd; rintro e w1 ⟨rfl, hL1⟩; have hLa := hL0.step hL1; clear hL0 hL1)
    | (go_at_call 11; refine (hless _).mono ?_; clear hless; rintro e w2 ⟨rfl, hL2⟩; have hLb := (hLa.alloc _).step hL2; clear hLa hL2)
    | (go_at_call 18; refine (hshare _).mono ?_; clear hshare; rintro e w3 ⟨rfl, hL3⟩; have hLc := hLb.step hL3; clear hLb hL3)
    | (go_at_call 28; refine (htake _).mono ?_; clear htake; rintro e w4 ⟨rfl, hL4⟩; have hLd := (hLc.alloc _).step hL4; have hrow := Row.new w3 53 #[.int .i64 1, .int .i64 1000]; have f0 : w4.cell? ⟨w3.heap.size, 0, none⟩ = some (.int .i64 1) := cell_later ((hrow.cell 0).trans rfl) hL4; have f1 : w4.cell? ⟨w3.heap.size, 1, none⟩ = some (.int .i64 1000) := cell_later ((hrow.cell 1).trans rfl) hL4; clear hLc hL4 hrow)
    | (go_at_call 29; refine (hsend _).mono ?_; clear hsend; rintro e w5 ⟨rfl, hL5⟩; have hLe := hLd.step hL5; have g0 : w5.cell? ⟨w3.heap.size, 0, none⟩ = some (.int .i64 1) := cell_later f0 hL5; have g1 : w5.cell? ⟨w3.heap.size, 1, none⟩ = some (.int .i64 1000) := cell_later f1 hL5; clear f0 f1 hLd hL5)
    | fail)
  go_upto_region 8 with (first
    | (refine wpList_buildSl rfl 79 2 _ rfl #[(0, feeV 0 0), (1, feeV 1 1000)] rfl (buildFees _) ?_)
    | (go_at_call 30; refine (hroute _).mono ?_; clear hroute; rintro e w6 ⟨⟨v, rfl, B, c', rfl, hrd⟩, hL6⟩; have hLf := (hLe.alloc _).step hL6; clear g0 g1 hLe hL6)
    | fail)
  go_upto_region 12 with (first
    | (go_at_call 20; refine (ht1 _ hLf).mono ?_; clear ht1; rintro e w7 ⟨rfl, hL7⟩; have hLg := hLf.step hL7; have hrd7 := hrd.later hL7; clear hLf hL7 hrd)
    | (go_at_call 20; refine (ht2 _ hLg).mono ?_; clear ht2; rintro e w8 ⟨rfl, hL8⟩; have hLh := hLg.step hL8; have hrd8 := hrd7.later hL8; clear hLg hL8 hrd7)
    | (go_at_call 22; refine (hp1 _ hLh).mono ?_; clear hp1; rintro e w9 ⟨rfl, hL9⟩; have hLi := hLh.step hL9; have hrd9 := hrd8.later hL9; clear hLh hL9 hrd8)
    | (go_at_call 22; refine (hp2 _ hLi).mono ?_; clear hp2; rintro e wa ⟨rfl, hLA⟩; have hLj := hLi.step hLA; have hrdA := hrd9.later hLA; clear hLi hLA hrd9)
    | fail)
  have hsame := fun W (h : Later wa W) => same_any B (some ⟨W.heap.size, 0, none⟩) 3 3 c' 3 [5006, 5006, 5000] [5006, 5006, 5000] (W.alloc (.cells #[.int .i64 5006, .int .i64 5006, .int .i64 5000] 2)) rfl rfl (by omega) (by omega) ((hrdA.later h).later ((Later.refl W).alloc _)) (rd3Z _ _ _ W)
  rw [show decide ([(5006 : Int), 5006, 5000] = [5006, 5006, 5000]) = true from rfl] at hsame
  clear hrdA
  go_wp2_with (first
    | (go_at_call 15; refine (num5_any _ _).mono ?_; rintro e wb ⟨rfl, rfl⟩)
    | (refine wpList_buildSl rfl 22 3 _ rfl #[(0, .int .i64 _), (1, .int .i64 _), (2, .int .i64 _)] rfl (build3Z _ _ _ _) ?_)
    | (go_at_call 17; refine (hsame wa (Later.refl _)).mono ?_; clear hsame; rintro e wc ⟨rfl, hLC⟩; have hLk := (hLj.alloc _).step hLC; clear hLj hLC)
    | fail)
  exact HΦ.out _ _ ⟨rfl, hLk⟩
end Go.Proofs.YtcfhhljjknmniaaDoor
