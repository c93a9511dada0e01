/- Walks: the chapter's rows. -/
import Derived.Test.YtbjclmfhmdalkaaHm13
set_option linter.unusedVariables false
set_option linter.unusedSimpArgs false
namespace Go.Proofs.Ytbjclmfhmdalkaa
open Go.RowKit
theorem Steps.nil (w : World) (B : Option Addr) : Steps w B [] := fun h => absurd rfl h
theorem Steps.one (w : World) (t : TypeId) (s : List UInt8) (n : Nat) : Steps (w.alloc (.cells #[.string ⟨s.toArray⟩, .int .u64 (n : Int)] t)) (some ⟨w.heap.size, 0, none⟩) [(s, n)] := fun _ =>
  ⟨_, _, rfl, fun i hi => by
    have e : i = 0 := by simpa using hi
    subst e
    exact ⟨((Row.new w t _).cell 0).trans rfl, ((Row.new w t _).cell 1).trans rfl⟩⟩
theorem Steps.two (w : World) (t : TypeId) (s : List UInt8) (n : Nat) (s2 : List UInt8) (n2 : Nat) : Steps (w.alloc (.cells #[.string ⟨s.toArray⟩, .int .u64 (n : Int), .string ⟨s2.toArray⟩, .int .u64 (n2 : Int)] t)) (some ⟨w.heap.size, 0, none⟩) [(s, n), (s2, n2)] := fun _ =>
  ⟨_, _, rfl, fun i hi => by
    rcases i with _ | _ | i
    · exact ⟨((Row.new w t _).cell 0).trans rfl, ((Row.new w t _).cell 1).trans rfl⟩
    · exact ⟨((Row.new w t _).cell 2).trans rfl, ((Row.new w t _).cell 3).trans rfl⟩
    · exact absurd hi (by simp)⟩
theorem wpList_slice0G {P : Program} {ops : Array Oper} {rest : List Oper} {o : Oper} {a : Act} {w : World} {Q : Exit → Act → World → Prop} (hw : Region.wanted o (yielded ops a.tmps) = true) (T : TypeId) (x : Operand) (ho : o.op = .slice T x none none none) (vx : Value) (hx : a.eval x = vx) {v : Value} {w' : World}
    (hr : (Instr.sliceAt T vx none none none).run P w = .ok v w') (h : wpList P ops Q rest (a.put o.dst v) w') : wpList P ops Q (o :: rest) a w :=
  wpList_on hw fun _ hK => by
    unfold Oper.wp execOp
    simp only [ho, Sem.run_bind, Sem.run_pure, Result.andThen_ok, Option.map_none, hx, hr]
    exact hK _ _ h
/-- A key's tag of one part that is one byte, and whether that is it. -/
theorem tag_one (g1 : Nat) (k : List UInt8) (n : Nat) (c : UInt8) (w : World) (hn : k.length = n) (hm : n ≤ 1000) (hr : Rd w (some ⟨g1, 0, none⟩) k) :
    Calls Try.prog 20 #[.slice (some ⟨g1, 0, none⟩) n n, .slice (some ⟨w.heap.size + 1, 0, none⟩) 1 1] ((w.alloc (.cells #[.int .u8 (c.toNat : Int)] 5 (1, 2))).alloc (.cells #[.slice (some ⟨w.heap.size, 0, none⟩) 1 1] 22)) fun e w' => e = .returned (.agg (hC (Hm.tag k [c]))) ∧ Later w w' := by
  have ha := Rd.mark w 5 (1, 2) [c]
  have hrow := RdsC.one (w := w.alloc (.cells #[.int .u8 (c.toNat : Int)] 5 (1, 2))) 22 rfl ha rfl (Nat.le_refl 1) (by decide)
  rw [World.size_alloc] at hrow
  have := hmTag_any (some ⟨g1, 0, none⟩) n n k (some ⟨w.heap.size + 1, 0, none⟩) 1 1 [[c]] _ hn (Nat.le_refl _) (by omega) (by omega) ((hr.alloc _).alloc _) rfl (by decide) (by simp) hrow
  exact this.mono fun e w' ⟨h1, h2⟩ => ⟨by rw [h1]; simp, (((Later.refl w).alloc _).alloc _).step h2⟩
theorem right_one (g1 : Nat) (k : List UInt8) (n : Nat) (c : UInt8) (x : List UInt8) (w : World) (hn : k.length = n) (hm : n ≤ 1000) (hr : Rd w (some ⟨g1, 0, none⟩) k) (hx : x.length = 32) :
    Calls Try.prog 12 #[.slice (some ⟨g1, 0, none⟩) n n, .agg (hC x), .slice (some ⟨w.heap.size + 1, 0, none⟩) 1 1] ((w.alloc (.cells #[.int .u8 (c.toNat : Int)] 5 (1, 2))).alloc (.cells #[.slice (some ⟨w.heap.size, 0, none⟩) 1 1] 22)) fun e w' => e = .returned (.bool (Hm.tag k [c] == x)) ∧ Later w w' := by
  have ha := Rd.mark w 5 (1, 2) [c]
  have hrow := RdsC.one (w := w.alloc (.cells #[.int .u8 (c.toNat : Int)] 5 (1, 2))) 22 rfl ha rfl (Nat.le_refl 1) (by decide)
  rw [World.size_alloc] at hrow
  have := right_any (some ⟨g1, 0, none⟩) n n k x (some ⟨w.heap.size + 1, 0, none⟩) 1 1 [[c]] _ hn (Nat.le_refl _) (by omega) (by omega) ((hr.alloc _).alloc _) hx rfl (by decide) (by simp) hrow
  exact this.mono fun e w' ⟨h1, h2⟩ => ⟨by rw [h1]; simp, (((Later.refl w).alloc _).alloc _).step h2⟩
theorem hm_child_nil (key : List UInt8) : Hm.child key [] = Sha.sum key := rfl
theorem k_ab : (Hm.tag [107] [98] == Hm.tag [107] [97]) = false := by decide +kernel
set_option maxRecDepth 100000 in
set_option maxHeartbeats 1000000 in
theorem works2_yes (w : World) :
    Calls Try.prog 10 #[] w fun e w' => e = .returned (.bool true) ∧ Below w.heap.size w w' := by
  have kc := fun (w : World) (C : Array Value) (n c : Nat) => Lib.run_convert_bytes_const (P := Try.prog) w 22 5 C n c Try.underlying22 Try.underlying5
  have hr1 : Rd (w.alloc (.cells #[.int .u8 107] 5 (1, 2))) (some ⟨w.heap.size, 0, none⟩) [107] := Rd.mark w 5 (1, 2) [107]
  have hL1 := (Later.refl w).alloc (.cells #[.int .u8 107] 5 (1, 2))
  go_enter Try.func10, Try.ntmps10
  go_upto_region 2 with fail
  obtain ⟨g1, hg1⟩ : ∃ q, q = w.heap.size := ⟨_, rfl⟩
  obtain ⟨key, hkey⟩ : ∃ q : List UInt8, q = [107] := ⟨_, rfl⟩
  rw [← hkey] at hr1
  have hkl : key.length = 1 := by rw [hkey]; rfl
  have HAB0 : Hid ((Hm.tag key [98] == Hm.tag key [97]) = false) := Lib.hid (by rw [hkey]; exact k_ab)
  clear hkey
  rw [← hg1] at hr1 ⊢
  clear hg1
  generalize w.alloc (.cells #[.int .u8 107] 5 (1, 2)) = w1 at *
  go_upto_region 3 with (first
    | (go_at_call 13; refine (expand_out (some ⟨g1, 0, none⟩) 1 1 ⟨#[120]⟩ 8161 _ (by decide)).mono ?_; rintro e w2 ⟨rfl, hL2⟩)
    | fail)
  have hr2 := hr1.later hL2
  have hL12 := hL1.step hL2
  clear hr1 hL1 hL2
  go_upto_region 4 with (first
    | (go_at_call 13; refine (expand_any (some ⟨g1, 0, none⟩) 1 1 key [120] 0 _ hkl (by decide) (by decide) (by decide) (by decide) hr2 (by decide)).mono ?_; rintro e w3 ⟨v3, rfl, hown3, hb3⟩)
    | fail)
  have hL3 : Later w2 w3 := hb3
  obtain ⟨A4, c4, rfl, _, _, _⟩ := hown3.slice
  have hl0 : (Hm.expand key [120] 0).length = 0 := Hm.expand_len _ _ _
  rw [hl0]
  have hr3 := hr2.later hL3
  have hL13 := hL12.step hL3
  clear hown3 hb3 hL3 hr2 hL12 hl0
  have kc2 := kc (w3.alloc (.cells #[.int .u8 97] 5 (1, 2))) #[.int .u8 98] 1 1
  rw [World.size_alloc] at kc2
  have ha := (Rd.mark w3 5 (1, 2) [97]).alloc (.cells #[.int .u8 98] 5 (1, 2))
  have hb := Rd.mark (w3.alloc (.cells #[.int .u8 97] 5 (1, 2))) 5 (1, 2) [98]
  have hL4 : Later w3 ((w3.alloc (.cells #[.int .u8 97] 5 (1, 2))).alloc (.cells #[.int .u8 98] 5 (1, 2))) := ((Later.refl w3).alloc _).alloc _
  have hs4 : ((w3.alloc (.cells #[.int .u8 97] 5 (1, 2))).alloc (.cells #[.int .u8 98] 5 (1, 2))).heap.size = w3.heap.size + 1 + 1 := by simp only [World.size_alloc]
  rw [World.size_alloc] at hb
  have hrows := (RdsW.two (w0 := (w3.alloc (.cells #[.int .u8 97] 5 (1, 2))).alloc (.cells #[.int .u8 98] 5 (1, 2))) 22 hs4 ha rfl (Nat.le_refl 1) (by decide) hb rfl (Nat.le_refl 1) (by decide)).toC ((Later.refl _).alloc _)
  have hr4 := hr3.later hL4
  have htag := hmTag_any (some ⟨g1, 0, none⟩) 1 1 key (some ⟨w3.heap.size + 1 + 1, 0, none⟩) 2 2 [[97], [98]] _ hkl (by decide) (by decide) (by decide) (hr4.alloc _) rfl (by decide) (by decide) hrows
  have hL5 := hL4.alloc (.cells #[.slice (some ⟨w3.heap.size, 0, none⟩) 1 1, .slice (some ⟨w3.heap.size + 1, 0, none⟩) 1 1] 22)
  obtain ⟨T, hT⟩ : ∃ q, Hm.tag key [97, 98] = q := ⟨_, rfl⟩
  have hTl : T.length = 32 := by rw [← hT]; exact Hm.tag_len _ _
  rw [show ([[97], [98]] : List (List UInt8)).flatten = [97, 98] from rfl, hT] at htag
  have HT := Lib.hid hT
  have HTL := Lib.hid hTl
  have HTAG := Lib.hid htag
  have HL5 := Lib.hid hL5
  clear ha hb hL4 hs4 hrows hr4 hT hTl htag hL5
  go_upto_region 5 with (first
    | (refine wpList_buildSl rfl 23 2 _ rfl #[(0, .slice (some ⟨w3.heap.size, 0, none⟩) 1 1), (1, .slice (some ⟨w3.heap.size + 1, 0, none⟩) 1 1)] rfl (run_rows2 _ _ _ _ _ _ _) ?_)
    | (go_at_call 20; refine HTAG.out.mono ?_; rintro e w5 ⟨rfl, hb5⟩; have hL35 : Later w3 w5 := HL5.out.step hb5; obtain ⟨w6, hst6, hr6, hg6⟩ := storeH (a := []) (b := T) (by simp) (by rw [HTL.out]; omega) (Row.new w5 25 (hC [])))
    | (with_reducible refine wpList_alloc rfl 25 rfl (allocH _) ?_)
    | (refine wpList_store rfl 25 (.tmp 6) (.tmp 26) rfl (.pointer (some ⟨w5.heap.size, 0, none⟩)) (.agg (hC T)) rfl rfl hst6 ?_)
    | fail)
  have hL36 : Later w3 w6 := Below.grown (hL35.alloc _) hg6 (by have := hL35.size; simp only [World.size_alloc]; omega) (fun j e => by cases e; exact hL35.size)
  obtain ⟨g6, hg6e⟩ : ∃ q, q = w5.heap.size := ⟨_, rfl⟩
  rw [← hg6e] at hr6 ⊢
  have hrk := hr3.later hL36
  have hL16 := hL13.step hL36
  clear kc2 HTAG HL5 hb5 hL35 hst6 hg6 hg6e hL36 hr3 hL13
  obtain ⟨U, hU⟩ : ∃ q, Hm.child key [([97], 1)] = q := ⟨_, rfl⟩
  have hUl : U.length = 32 := by rw [← hU]; exact Hm.child_len _ _
  have hch := child_any (some ⟨g1, 0, none⟩) 1 1 key (some ⟨w6.heap.size, 0, none⟩) 1 1 [([97], 1)] _ hkl (by decide) (by decide) (by decide) (hrk.alloc _) rfl (by decide) (by decide) (Steps.one w6 42 [97] 1)
  rw [hU] at hch
  have HU := Lib.hid hU
  have HUL := Lib.hid hUl
  have HCH := Lib.hid hch
  clear hU hUl hch
  go_upto_region 6 with (first
    | (go_at_call 16; refine HCH.out.mono ?_; rintro e w7 ⟨rfl, hb7⟩; have hL67 : Later w6 w7 := ((Later.refl w6).alloc _).step hb7; obtain ⟨w8, hst8, hr7, hg8⟩ := storeH (a := []) (b := U) (by simp) (by rw [HUL.out]; omega) (Row.new w7 25 (hC [])))
    | (with_reducible refine wpList_alloc rfl 25 rfl (allocH _) ?_)
    | (refine wpList_store rfl 25 (.tmp 7) (.tmp 30) rfl (.pointer (some ⟨w7.heap.size, 0, none⟩)) (.agg (hC U)) rfl rfl hst8 ?_)
    | fail)
  have hL68 : Later w6 w8 := Below.grown (hL67.alloc _) hg8 (by have := hL67.size; simp only [World.size_alloc]; omega) (fun j e => by cases e; exact hL67.size)
  obtain ⟨g7, hg7e⟩ : ∃ q, q = w7.heap.size := ⟨_, rfl⟩
  rw [← hg7e] at hr7 ⊢
  have hrk8 := hrk.later hL68
  have hr68 := hr6.later hL68
  have hL18 := hL16.step hL68
  have ld6 := loadH HTL.out hr68
  clear HCH hb7 hL67 hst8 hg8 hg7e hL68 hrk hL16 hr6
  have ha := Rd.mark w8 5 (2, 3) [97, 98]
  have hrow := RdsC.one (w := w8.alloc (.cells #[.int .u8 97, .int .u8 98] 5 (2, 3))) 22 rfl ha rfl (Nat.le_refl 2) (by decide)
  rw [World.size_alloc] at hrow
  have hright := right_any (some ⟨g1, 0, none⟩) 1 1 key T (some ⟨w8.heap.size + 1, 0, none⟩) 1 1 [[97, 98]] _ hkl (by decide) (by decide) (by decide) ((hrk8.alloc _).alloc _) HTL.out rfl (by decide) (by decide) hrow
  rw [show ([[97, 98]] : List (List UInt8)).flatten = [97, 98] from rfl, HT.out, beq_self_eq_true] at hright
  have HRIGHT := Lib.hid hright
  clear ha hrow hright
  go_wp2_with (first
    | (go_at_call 15; refine (num2_any _ _).mono ?_; rintro e w' ⟨rfl, rfl⟩)
    | (refine wpList_loadG (by rfl) 25 (.tmp 6) rfl (.pointer (some ⟨g6, 0, none⟩)) rfl ld6 ?_)
    | (go_at_call 12; refine HRIGHT.out.mono ?_; rintro e w9 ⟨rfl, hb9⟩)
    | fail)
  have hL89 : Later w8 w9 := ((((Later.refl w8).alloc _).alloc _)).step hb9
  have hrk9 := hrk8.later hL89
  have hL19 := hL18.step hL89
  have hr79 := hr7.later hL89
  clear hb9 hL89 hrk8 hL18 hr7 HRIGHT ld6 hr68
  obtain ⟨T1, hT1⟩ : ∃ q, Hm.tag key [97] = q := ⟨_, rfl⟩
  have hT1l : T1.length = 32 := by rw [← hT1]; exact Hm.tag_len _ _
  have ht1 := tag_one g1 key 1 97 w9 hkl (by decide) hrk9
  have hab := HAB0.out
  rw [hT1] at ht1 hab
  have HT1L := Lib.hid hT1l
  have HAB := Lib.hid hab
  clear hT1 hT1l hab
  refine ht1.mono ?_
  clear ht1
  rintro e wA ⟨rfl, hLA⟩
  have hrkA := hrk9.later hLA
  have hL1A := hL19.step hLA
  have hr7A := hr79.later hLA
  clear hLA hrk9 hL19 hr79
  have hri := right_one g1 key 1 98 T1 wA hkl (by decide) hrkA HT1L.out
  rw [HAB.out] at hri
  go_wp2_with fail
  refine hri.mono ?_
  clear hri
  rintro e wB ⟨rfl, hLB⟩
  have hrkB := hrkA.later hLB
  have hL1B := hL1A.step hLB
  have hr7B := hr7A.later hLB
  clear hLB hrkA hL1A hr7A
  obtain ⟨H, hH⟩ : ∃ q, Sha.sum key = q := ⟨_, rfl⟩
  have hHl : H.length = 32 := by rw [← hH]; exact Sha.sum_len _
  have hc0 := child_any (some ⟨g1, 0, none⟩) 1 1 key none 0 0 [] wB hkl (by decide) (by decide) (by decide) hrkB rfl (by decide) (by decide) (Steps.nil _ _)
  rw [hm_child_nil, hH] at hc0
  have HSUM : Hid (∀ W, Later wB W → Calls Try.prog 22 #[.slice (some ⟨g1, 0, none⟩) 1 1] W fun e w' => e = .returned (.agg (hC H)) ∧ Below W.heap.size W w') := Lib.hid (fun W hL => by
    have := refSum_any (some ⟨g1, 0, none⟩) 1 1 key W hkl (by decide) (hrkB.later hL)
    rwa [hH] at this)
  have HHL := Lib.hid hHl
  have HC0 := Lib.hid hc0
  clear hH hHl hc0
  go_wp2_with (first
    | (go_at_call 16; refine HC0.out.mono ?_; clear HC0; rintro e wC ⟨rfl, hLC⟩)
    | (go_at_call 22; refine (HSUM.out _ hLC).mono ?_; clear HSUM; rintro e wD ⟨rfl, hLD⟩)
    | (refine wpList_binG (by rfl) .eql 25 _ (.tmp 67) (.tmp 69) rfl (.agg (hC H)) (.agg (hC H)) rfl rfl (eqgHash _ _ _ _ _ _) (eqlSame H HHL.out _) ?_)
    | (refine wpList_slice0G (by rfl) 25 (.tmp 7) rfl (.pointer (some ⟨g7, 0, none⟩)) rfl (sliceHash _) ?_)
    | fail)
  have hLBD : Later wB wD := Later.step hLC hLD
  have hrkD := hrkB.later hLBD
  have hr7D := hr7B.later hLBD
  have hL1D := hL1B.step hLBD
  clear hLC hLD hLBD hrkB hr7B hL1B
  obtain ⟨V, hV⟩ : ∃ q, Hm.child U [([98], 2)] = q := ⟨_, rfl⟩
  have hVl : V.length = 32 := by rw [← hV]; exact Hm.child_len _ _
  have hV2 : Hm.child key [([97], 1), ([98], 2)] = V := by rw [Hm.child_two, HU.out, hV]
  have hc1 := child_any (some ⟨g7, 0, none⟩) 32 32 U (some ⟨wD.heap.size, 0, none⟩) 1 1 [([98], 2)] _ HUL.out (Nat.le_refl _) (by decide) (by decide) (rd_hash HUL.out (hr7D.alloc (.cells #[.string ⟨#[98]⟩, .int .u64 2] 42))) rfl (by decide) (by decide) (Steps.one wD 42 [98] 2)
  rw [hV] at hc1
  have HVL := Lib.hid hVl
  have HV2 := Lib.hid hV2
  clear hV hVl hV2 hr7D
  refine hc1.mono ?_
  clear hc1
  rintro e wE ⟨rfl, hbE⟩
  have hLE : Later wD wE := ((Later.refl wD).alloc _).step hbE
  have hrkE := hrkD.later hLE
  have hL1E := hL1D.step hLE
  clear hbE hLE hrkD hL1D
  have hc2 := child_any (some ⟨g1, 0, none⟩) 1 1 key (some ⟨wE.heap.size, 0, none⟩) 2 2 [([97], 1), ([98], 2)] _ hkl (by decide) (by decide) (by decide) (hrkE.alloc (.cells #[.string ⟨#[97]⟩, .int .u64 1, .string ⟨#[98]⟩, .int .u64 2] 42)) rfl (by decide) (by decide) (Steps.two wE 42 [97] 1 [98] 2)
  rw [HV2.out] at hc2
  go_wp2_with fail
  refine hc2.mono ?_
  clear hc2
  rintro e wF ⟨rfl, hbF⟩
  have hLF : Later w wF := (hL1E.alloc _).step hbF
  clear hbF hrkE hL1E
  go_wp2_with (first
    | (refine wpList_binG (by rfl) .eql 25 _ (.tmp 76) (.tmp 81) rfl (.agg (hC V)) (.agg (hC V)) rfl rfl (eqgHash _ _ _ _ _ _) (eqlSame V HVL.out _) ?_)
    | fail)
  go_ret
  exact ⟨rfl, hLF⟩
end Go.Proofs.Ytbjclmfhmdalkaa
