/- Walks, route: Parse, where the text is none; Text of an invoice that may not be. -/
import Derived.Test.YtloiaaolnfimgaaGreatRk8
set_option linter.unusedVariables false
set_option linter.unusedSimpArgs false
namespace Go.Proofs.YtloiaaolnfimgaaGreat
open Go.RowKit Rt
theorem infoInv : (Tryz.prog.info? 51).map (·.size) = some 66 := by kernel_rfl
theorem allocInv (w : World) : (Instr.alloc 51 true (.tuple #[])).run Tryz.prog w = .ok (.pointer (some ⟨w.heap.size, 0, none⟩)) (w.alloc (.cells (hopC noHop) 51)) := by kernel_rfl
theorem buildInv0 (w : World) : (Instr.build 51 #[]).run Tryz.prog w = .ok (.agg (hopC noHop)) w := by kernel_rfl
theorem storeInv {w : World} {g : Nat} {t : TypeId} {h h' : Hop} (hw : h.wf) (hw' : h'.wf) (hr : Row w g t (hopC h)) : ∃ w', (Instr.storeAt 51 (.pointer (some ⟨g, 0, none⟩)) (.agg (hopC h'))).run Tryz.prog w = .ok () w' ∧ Row w' g t (hopC h') ∧ w.grownBy w' (some g) :=
  run_put_row hr (by rw [hopC_size hw, hopC_size hw']) (by rw [hopC_size hw']; exact infoInv) (hopC_one h')
theorem loadInv {w : World} {g : Nat} {t : TypeId} {h : Hop} (hw : h.wf) (hr : Row w g t (hopC h)) : (Instr.loadAt 51 (.pointer (some ⟨g, 0, none⟩))).run Tryz.prog w = .ok (.agg (hopC h)) w :=
  run_load_row hr Tryz.underlying51 rfl (by rw [hopC_size hw]; exact infoInv)
theorem boxInv {h : Hop} (hw : h.wf) (w : World) : (Instr.box 51 (.agg (hopC h))).run Tryz.prog w = .ok (.pointer (some ⟨w.heap.size, 0, none⟩)) (w.alloc (.cells (hopC h) 51)) :=
  run_box_row w _ _ (by rw [hopC_size hw]; exact infoInv)
theorem fInv0 {g o : Nat} {W : World} : (Instr.fieldAt 51 (.pointer (some ⟨g, o, none⟩)) 0).run Tryz.prog W = .ok (.pointer (some ⟨g, o, none⟩)) W := by go_simp
theorem fInv1 {g o : Nat} {W : World} : (Instr.fieldAt 51 (.pointer (some ⟨g, o, none⟩)) 1).run Tryz.prog W = .ok (.pointer (some ⟨g, o + 32, none⟩)) W := by go_simp
theorem fInv2 {g o : Nat} {W : World} : (Instr.fieldAt 51 (.pointer (some ⟨g, o, none⟩)) 2).run Tryz.prog W = .ok (.pointer (some ⟨g, o + 64, none⟩)) W := by go_simp
theorem fInv3 {g o : Nat} {W : World} : (Instr.fieldAt 51 (.pointer (some ⟨g, o, none⟩)) 3).run Tryz.prog W = .ok (.pointer (some ⟨g, o + 65, none⟩)) W := by go_simp
set_option maxRecDepth 100000 in
theorem parseFn_any (q : Nat) (h : Hop) (hw : h.wf) (w : World) (hr : Row w q 51 (hopC h)) :
    Calls Tryz.prog 65 #[.pointer (some ⟨q, 0, none⟩)] w fun e w' => e = .returned (.tuple #[]) ∧ Row w' q 51 (hopC noHop) ∧ w.grownBy w' (some q) := by
  obtain ⟨w', hst, h1, h2⟩ := storeInv hw noHop_wf hr
  have H1 := Lib.hid h1
  have H2 := Lib.hid h2
  clear h1 h2 hr
  go_enter Tryz.func65, Tryz.ntmps65
  go_wp2_with (first
    | (guard_target =~ wpList _ _ _ (_ :: _) _ _; refine wpList_build rfl 51 _ rfl #[] rfl (buildInv0 _) ?_)
    | (guard_target =~ wpList _ _ _ (_ :: _) _ _; refine wpList_store rfl 51 (.tmp 0) (.tmp 1) rfl (.pointer (some ⟨q, 0, none⟩)) (.agg (hopC noHop)) rfl rfl hst ?_)
    | fail)
  go_end0
  exact ⟨rfl, H1.out, H2.out⟩
theorem parse_caught (q q3 : Nat) (h : Hop) (hs : h.wf) (x n : Int) (w W : World) (k2 : Row W q 51 (hopC h)) (k3 : Row W q3 28 #[.int .i64 x]) (hbW : Below w.heap.size w W) (hq : w.heap.size ≤ q) (hq3 : w.heap.size ≤ q3) :
    CallsD Tryz.prog 30 #[.pointer (some ⟨q3, 0, none⟩), .func (.func 65) #[] #[.pointer (some ⟨q, 0, none⟩)]] (.panicking (gaveUp n)) W fun e u' w' =>
      e = .returned (.tuple #[]) ∧ u' = .panicking ({ v := .iface 28 (.int .i64 n), recovered := true } :: []) ∧ Row w' q 51 (hopC noHop) ∧ w'.cell? ⟨q3, 0, none⟩ = some (.int .i64 n) ∧ Below w.heap.size w w' := by
  have hne := ne_rows k2 k3 (by decide)
  refine (rcaught_panicking q3 65 #[.pointer (some ⟨q, 0, none⟩)] n x [] W k3 (fun X X' => Row X' q 51 (hopC noHop) ∧ X.grownBy X' (some q)) (enters_of Tryz.func65 (by kernel_rfl) rfl _) (fun X hX hg => (parseFn_any q h hs X (k2.grown hg (fun e => hne (Option.some.inj e)))))).mono ?_
  rintro e u' w' ⟨rfl, rfl, X, hk, hg, hp, hg2⟩
  have hb1 : Below w.heap.size w X := hbW.grown hg hbW.size (fun j e => by cases e; exact hq3)
  exact ⟨rfl, rfl, hp, ((hk.grown hg2 (fun e => hne (Option.some.inj e).symm)).cell 0).trans rfl, hb1.grown hg2 hb1.size (fun j e => by cases e; exact hq)⟩
def markL : List UInt8 := [116, 97, 108, 108, 121]
set_option maxRecDepth 100000 in
set_option maxHeartbeats 4000000 in
theorem parse_bad (s : List UInt8) (w : World) (hbad : Lib.hasPrefix s markL = true → s.length ≤ 300 → okHex (s.drop 5) = true → openE (unhex (s.drop 5)) ≠ 0) :
    Calls Tryz.prog 18 #[.string ⟨s.toArray⟩] w fun e w' => e = .returned (.tuple #[.agg (hopC noHop), .int .i64 351]) ∧ Below w.heap.size w w' := by
  refine Calls.post fun Φ HΦ => ?_
  have k2 := (Row.new w 51 (hopC noHop)).alloc (.cells #[.int .i64 0] 28)
  have k3 := Row.new (w.alloc (.cells (hopC noHop) 51)) 28 #[.int .i64 0]
  have hb := below_new2 w (.cells (hopC noHop) 51) (.cells #[.int .i64 0] 28)
  rw [World.size_alloc] at k3
  have hmf : ∀ (fn : Fn) (first cap : Array Value) (w : World), (Instr.makeFunc fn first cap).run Tryz.prog w = .ok (.func fn first cap) w := fun _ _ _ _ => rfl
  go_enter_defers Tryz.func18, Tryz.ntmps18
  go_upto_region 1 with (first
    | (with_reducible refine wpList_alloc rfl 51 rfl (allocInv _) ?_)
    | fail)
  obtain ⟨q, hq0⟩ : ∃ q, q = w.heap.size := ⟨_, rfl⟩
  obtain ⟨q3, hq30⟩ : ∃ q, q = w.heap.size + 1 := ⟨_, rfl⟩
  try simp only [World.size_alloc]
  rw [← hq30] at k3 ⊢
  rw [← hq0] at k2 ⊢
  have hq : w.heap.size ≤ q := by omega
  have hq3 : w.heap.size ≤ q3 := by omega
  have hqq : q ≠ q3 := by omega
  clear hq0 hq30
  generalize (w.alloc (.cells (hopC noHop) 51)).alloc (.cells #[.int .i64 0] 28) = w1 at *
  go_upto_region 2 with fail
  clear hmf
  have hcp : ∀ W, Calls Tryz.prog 66 #[.string ⟨s.toArray⟩, .string ⟨#[116, 97, 108, 108, 121]⟩] W fun e w' => e = .returned (.tuple #[.string ⟨(Lib.trimPrefix s markL).toArray⟩, .bool (Lib.hasPrefix s markL)]) ∧ w' = W := fun W => Tryz.strings_CutPrefix ⟨s.toArray⟩ ⟨#[116, 97, 108, 108, 121]⟩ W
  have htr : Lib.hasPrefix s markL = true → Lib.trimPrefix s markL = s.drop 5 := fun h => by unfold Lib.trimPrefix; rw [if_pos h]; rfl
  have hsz : (⟨s.toArray⟩ : ByteArray).size = s.length := rfl
  obtain ⟨b, hb0⟩ : ∃ b, Lib.hasPrefix s markL = b := ⟨_, rfl⟩
  obtain ⟨r, hr0⟩ : ∃ r, Lib.trimPrefix s markL = r := ⟨_, rfl⟩
  rw [hb0, hr0] at htr
  rw [hb0] at hbad
  rw [hb0, hr0] at hcp
  have kF2 := k2
  have kF3 := k3
  have hbF := hb
  clear hb0 hr0
  cases b with
  | false =>
    go_wp2_with (first
      | (go_at_call 66; refine (hcp _).mono ?_; clear hcp; rintro e w7 ⟨rfl, h7⟩; obtain rfl := h7.symm)
      | (go_at_call 32; refine (rmust_no _ _).mono ?_; rintro e w7 ⟨h7, rfl⟩; obtain rfl := h7.symm)
      | fail)
    refine leaves_cons (f := 30) (args := #[.pointer (some ⟨q3, 0, none⟩), .func (.func 65) #[] #[.pointer (some ⟨q, 0, none⟩)]]) (by simp) (by simp [go_sem]) ?_; refine (parse_caught q q3 _ noHop_wf _ _ w _ kF2 kF3 hbF hq hq3).mono ?_; rintro e u' w'' ⟨rfl, rfl, kQ, cE, hbG⟩; show ∃ v, _ ∧ _; exact ⟨_, results_cc rfl _ _ q q3 51 (hopC noHop) _ (.int .i64 351) rfl rfl kQ Tryz.underlying51 rfl (by rw [hopC_size noHop_wf]; exact infoInv) (loadErr cE), HΦ.out _ _ ⟨rfl, hbG⟩⟩
  | true =>
    have hrd := htr rfl
    subst hrd
    by_cases hl : s.length ≤ 300
    case neg =>
      have hd : decide ((s.length : Int) ≤ 300) = false := decide_eq_false (by omega)
      have hd' : decide (s.length ≤ 300) = false := decide_eq_false hl
      go_wp2_with (first
        | (go_at_call 66; refine (hcp _).mono ?_; clear hcp; rintro e w7 ⟨rfl, h7⟩; obtain rfl := h7.symm)
        | (go_at_call 32; refine (rmust_no _ _).mono ?_; rintro e w7 ⟨h7, rfl⟩; obtain rfl := h7.symm)
        | fail)
      refine leaves_cons (f := 30) (args := #[.pointer (some ⟨q3, 0, none⟩), .func (.func 65) #[] #[.pointer (some ⟨q, 0, none⟩)]]) (by simp) (by simp [go_sem]) ?_; refine (parse_caught q q3 _ noHop_wf _ _ w _ kF2 kF3 hbF hq hq3).mono ?_; rintro e u' w'' ⟨rfl, rfl, kQ, cE, hbG⟩; show ∃ v, _ ∧ _; exact ⟨_, results_cc rfl _ _ q q3 51 (hopC noHop) _ (.int .i64 351) rfl rfl kQ Tryz.underlying51 rfl (by rw [hopC_size noHop_wf]; exact infoInv) (loadErr cE), HΦ.out _ _ ⟨rfl, hbG⟩⟩
    have hd : decide ((s.length : Int) ≤ 300) = true := decide_eq_true (by omega)
    have hd' : decide (s.length ≤ 300) = true := decide_eq_true hl
    have hbo := fun W => bytesOf_any (s.drop 5) W (by rw [List.length_drop]; omega)
    have hul : (unhex (s.drop 5)).length ≤ 300 := by rw [unhex_len, List.length_drop]; omega
    have hbad2 := hbad rfl hl
    go_upto_region 4 with (first
      | (go_at_call 66; refine (hcp _).mono ?_; clear hcp; rintro e w7 ⟨rfl, h7⟩; obtain rfl := h7.symm)
      | (go_at_call 32; refine (rmust_ok _ _).mono ?_; rintro e w7 ⟨h7, rfl⟩; obtain rfl := h7.symm)
      | fail)
    clear hbad hd hd' htr
    cases hox : okHex (s.drop 5) with
    | false =>
      go_wp2_with (first
        | (go_at_call 68; refine (hbo _).mono ?_; clear hbo; rintro e w8 ⟨hb8, ⟨hy, _⟩ | ⟨_, rfl⟩⟩; exact absurd (hy.symm.trans hox) (by decide))
        | fail)
      have kF2 := k2.belowAll hb8
      have kF3 := k3.belowAll hb8
      have hbF := hb.trans (hb8.mono hb.size)
      refine leaves_cons (f := 30) (args := #[.pointer (some ⟨q3, 0, none⟩), .func (.func 65) #[] #[.pointer (some ⟨q, 0, none⟩)]]) (by simp) (by simp [go_sem]) ?_; refine (parse_caught q q3 _ noHop_wf _ _ w _ kF2 kF3 hbF hq hq3).mono ?_; rintro e u' w'' ⟨rfl, rfl, kQ, cE, hbG⟩; show ∃ v, _ ∧ _; exact ⟨_, results_cc rfl _ _ q q3 51 (hopC noHop) _ (.int .i64 351) rfl rfl kQ Tryz.underlying51 rfl (by rw [hopC_size noHop_wf]; exact infoInv) (loadErr cE), HΦ.out _ _ ⟨rfl, hbG⟩⟩
    | true =>
      have hop := fun A c W (h : Rd W A (unhex (s.drop 5))) (hc : (unhex (s.drop 5)).length ≤ c) => open_any A _ c (unhex (s.drop 5)) W rfl (by omega) hc h
      have her := hbad2 hox
      obtain ⟨er, he0⟩ : ∃ e, openE (unhex (s.drop 5)) = e := ⟨_, rfl⟩
      have hop2 : ∀ A c W, Rd W A (unhex (s.drop 5)) → (unhex (s.drop 5)).length ≤ c → Calls Tryz.prog 67 #[.slice A (unhex (s.drop 5)).length c] W fun e w' => ∃ v, e = .returned (.tuple #[v, .int .i64 er]) ∧ Own 5 w' W.heap.size v (openB (unhex (s.drop 5))) ∧ Below W.heap.size W w' := fun A c W h hc => by
        have h1 := hop A c W h hc
        unfold OpenPost at h1
        rw [he0] at h1
        exact h1
      rw [he0] at her
      have e1 : (er == 0) = false := by simpa using her
      have HBO := Lib.hid hbo
      have HOP := Lib.hid hop2
      have K2 := Lib.hid k2
      have K3 := Lib.hid k3
      have HB := Lib.hid hb
      have hc3 : ∀ W, Below w1.heap.size w1 W → W.cell? ⟨q3, 0, none⟩ = some (.int .i64 0) ∧ W.frozen? ⟨q3, 0, none⟩ = false := fun W h => ⟨((k3.belowAll h).cell 0).trans rfl, (k3.belowAll h).frozen 0⟩
      have HC3 := Lib.hid hc3
      clear hbo hop hop2 k2 k3 kF2 kF3 hb hbF hc3 hbad2
      go_upto_region 5 with (first
        | (go_at_call 68; refine (HBO.out _).mono ?_; rintro e w8 ⟨hb8, ⟨_, v8, rfl, ho8⟩ | ⟨hn8, _⟩⟩; rotate_left; exact absurd (hn8.symm.trans hox) (by decide); obtain ⟨A8, c8, rfl, hcl8, _, hr8⟩ := ho8.slice)
        | (go_at_call 67; refine (HOP.out A8 c8 _ hr8 hcl8).mono ?_; rintro e w9 ⟨v9, rfl, ho9, hb9⟩; obtain ⟨A9, c9, rfl, -, -, -⟩ := ho9.slice; obtain ⟨cc, ff⟩ := HC3.out w9 (hb8.trans (hb9.mono hb8.size)))
        | fail)
      have hb19 := hb8.trans (hb9.mono hb8.size)
      have kF2 := ((K2.out.belowAll hb19).far (p := ⟨q3, 0, none⟩) hqq (.int .i64 er))
      have kF3 := (K3.out.belowAll hb19).set 0 (.int .i64 er)
      have hbF := (HB.out.trans (hb19.mono HB.out.size)).setCell (p := ⟨q3, 0, none⟩) hq3 (.int .i64 er)
      have c3 : (w9.setCell ⟨q3, 0, none⟩ (.int .i64 er)).cell? ⟨q3, 0, none⟩ = some (.int .i64 er) := (kF3.cell 0).trans rfl
      generalize w9.setCell ⟨q3, 0, none⟩ (.int .i64 er) = wF at *
      clear cc ff ho9 hr8 ho8 hb8 hb9 hb19 K2 K3 HB HBO HOP HC3
      go_wp2_with (first
        | (go_at_call 32; refine (rmust_no _ _).mono ?_; rintro e w7 ⟨h7, rfl⟩; obtain rfl := h7.symm)
        | fail)
      refine leaves_cons (f := 30) (args := #[.pointer (some ⟨q3, 0, none⟩), .func (.func 65) #[] #[.pointer (some ⟨q, 0, none⟩)]]) (by simp) (by simp [go_sem]) ?_; refine (parse_caught q q3 _ noHop_wf _ _ w _ kF2 kF3 hbF hq hq3).mono ?_; rintro e u' w'' ⟨rfl, rfl, kQ, cE, hbG⟩; show ∃ v, _ ∧ _; exact ⟨_, results_cc rfl _ _ q q3 51 (hopC noHop) _ (.int .i64 351) rfl rfl kQ Tryz.underlying51 rfl (by rw [hopC_size noHop_wf]; exact infoInv) (loadErr cE), HΦ.out _ _ ⟨rfl, hbG⟩⟩
set_option maxRecDepth 100000 in
theorem rinv_any (h : Hop) (hw : h.wf) (hz : h.amt < 1) (w : World) : Calls Tryz.prog 53 #[.agg (hopC h)] w fun e w' => e = .returned (.bool false) ∧ Later w w' := by
  have hbx := boxInv hw w
  have hr := Row.new w 51 (hopC h)
  have hc := cHop2 hw hr
  have hL : Later w (w.alloc (.cells (hopC h) 51)) := below_new w _
  have h1 := fun W => rin_i64 h.amt 1 1125899906842624 W
  rw [decide_eq_false (show ¬ (1 : Int) ≤ h.amt by omega), Bool.false_and] at h1
  have HL := Lib.hid hL
  clear hr hL
  go_enter Tryz.func53, Tryz.ntmps53
  go_wp2_with (first
    | (guard_target =~ wpList _ _ _ (_ :: _) _ _; refine wpList_box rfl 51 (.tmp 0) rfl (.agg (hopC h)) rfl hbx ?_)
    | (guard_target =~ wpList _ _ _ (_ :: _) _ _; refine wpList_field rfl 51 (.tmp 1) 2 rfl (.pointer (some ⟨w.heap.size, 0, none⟩)) rfl fInv2 ?_)
    | (go_at_call 46; refine (h1 _).mono ?_; rintro e w7 ⟨rfl, h7⟩; obtain rfl := h7.symm)
    | fail)
  go_ret
  exact ⟨rfl, HL.out⟩
set_option maxRecDepth 100000 in
theorem text_no (h : Hop) (hw : h.wf) (hz : h.amt < 1) (w : World) : Calls Tryz.prog 16 #[.agg (hopC h)] w fun e w' => e = .returned (.tuple #[.string ⟨#[]⟩, .int .i64 2]) ∧ Later w w' := by
  refine Calls.post fun Φ HΦ => ?_
  have hbx := boxInv hw w
  have hr := Row.new w 51 (hopC h)
  have hld := loadInv hw hr
  have hL : Later w (w.alloc (.cells (hopC h) 51)) := below_new w _
  have h1 := fun W => rinv_any h hw hz W
  have HL := Lib.hid hL
  clear hr hL
  go_enter Tryz.func16, Tryz.ntmps16
  go_wp2_with (first
    | (guard_target =~ wpList _ _ _ (_ :: _) _ _; refine wpList_box rfl 51 (.tmp 0) rfl (.agg (hopC h)) rfl hbx ?_)
    | (guard_target =~ wpList _ _ _ (_ :: _) _ _; refine wpList_load rfl 51 (.tmp 1) rfl (.pointer (some ⟨w.heap.size, 0, none⟩)) rfl hld ?_)
    | (go_at_call 53; refine (h1 _).mono ?_; rintro e w7 ⟨rfl, hL7⟩)
    | fail)
  exact HΦ.out _ _ ⟨rfl, HL.out.step hL7⟩
end Go.Proofs.YtloiaaolnfimgaaGreat
