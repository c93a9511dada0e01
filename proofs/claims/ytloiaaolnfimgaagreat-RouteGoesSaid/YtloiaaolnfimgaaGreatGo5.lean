/- Joined texts: Rv5. -/
import Derived.Test.YtloiaaolnfimgaaGreatGo4
set_option linter.unusedVariables false
set_option linter.unusedSimpArgs false
set_option maxRecDepth 100000
set_option maxHeartbeats 32000000
namespace Go.Proofs.YtloiaaolnfimgaaGreat
open Go.RowKit Rt
theorem rep_eq (c : Nat) : Lib.repeatL [48] c = List.replicate c (48 : UInt8) := by
 induction c with
 | zero => rfl
 | succ c ih => rw [Lib.repeatL, ih, List.replicate_succ]; rfl
theorem subN {x y : Nat} (h : y <= x) (hx : x < 9223372036854775808) {W : World} : (binOp .sub 3 (.int .i64 (x : Int)) (.int .i64 (y : Int))).run Tryz.prog W = .ok (.int .i64 ((x - y : Nat) : Int)) W := by
 have h' : (binOp .sub 3 (.int .i64 (x : Int)) (.int .i64 (y : Int))).run Tryz.prog W = .ok (.int .i64 (IntKind.i64.wrap ((x : Int) - (y : Int)))) W := by kernel_rfl
 rw [h', show (x : Int) - (y : Int) = ((x - y : Nat) : Int) from by omega, IntWalk.i64_in _ (by omega)]
theorem rt_hp_len (l : List UInt8) (i : Nat) : (hp l i).length = 32 := by
 induction i with
 | zero => simp [hp, Sha.zeros]
 | succ i ih => rw [hp, List.length_set, ih]
theorem rt_parseB_len (l : List UInt8) : (parseB l).length <= 32 := by
 unfold parseB
 split
 ·rw [rt_hp_len]; omega
 ·simp
theorem run_arr_to (g k : Nat) (h : k <= 32) (W : World) : (Instr.sliceAt 25 (.pointer (some ⟨g, 0, none⟩)) none (some (.int .i64 (k : Int))) none).run Tryz.prog W = .ok (.slice (some ⟨g, 0, none⟩) k 32) W := by
 have h1 : (k : Int) <= 32 := by omega
 have h2 : (0 : Int) <= (k : Int) := by omega
 go_simp
def okHex (s : List UInt8) : Bool := decide (s.length % 2 = 0) && hexOk s
def is32 (cs : Array Value) : Prop := cs.size = 32
def RB (s : List UInt8) (w : World) (e : Ending) (w' : World) : Prop :=
 Below w.heap.size w w' /\ ((okHex s = true /\ ∃ v, e = .returned v /\ Own 5 w' w.heap.size v (unhex s)) \/ (okHex s = false /\ e = .panicked (gaveUp 351)))
theorem bytesOf_any (s : List UInt8) (w : World) (hs : s.length <= 300) : Calls Tryz.prog 68 #[.string ⟨s.toArray⟩] w (RB s w) := by
 refine Calls.post fun Φ HΦ => ?_
 have hsz : (⟨s.toArray⟩ : ByteArray).size = s.length := rfl
 by_cases hev : s.length % 2 = 0
 case neg =>
  have hd : (((s.length : Int) % 2) == 0) = false := by simp; omega
  have hno : okHex s = false := by unfold okHex; rw [decide_eq_false hev]; rfl
  go_enter Tryz.func68, Tryz.ntmps68
  go_wp2_with (first
   | (go_at_call 32; refine (rmust_no _ _).mono ?_; rintro e w7 ⟨h7, rfl⟩; obtain rfl := h7.symm)
   | fail)
  exact ⟨rfl, HΦ.out _ _ ⟨Below.refl _ _, .inr ⟨hno, rfl⟩⟩⟩
 have hd : (((s.length : Int) % 2) == 0) = true := by simp; omega
 go_enter Tryz.func68, Tryz.ntmps68
 go_wp2_with (first
  | (go_at_call 32; refine (rmust_ok _ _).mono ?_; rintro e w7 ⟨h7, rfl⟩; obtain rfl := h7.symm)
  | fail)
 go_loopw [0, 2] (fun sv ov wr => ∃ p : Nat, p <= s.length /\ p % 2 = 0 /\ sv = .string ⟨(s.drop p).toArray⟩ /\ Own 5 wr w.heap.size ov (unhex (s.take p)) /\ hexOk (s.take p) = true /\ Below w.heap.size w wr) (fun sv _ _ => match sv with | .string b => b.size | _ => 0)
 case atStart => exact ⟨0, by omega, rfl, by rw [List.drop_zero], Own.nil _ _ _, rfl, Below.refl _ _⟩
 case round =>
  obtain ⟨p, hpp, hp2, rfl, hown, hok, hb⟩ := hrel
  obtain ⟨r, hr⟩ : ∃ r, s.drop p = r := ⟨_, rfl⟩
  have hrl : r.length = s.length - p := by rw [<- hr, List.length_drop]
  rw [hr]
  have hszr : (⟨r.toArray⟩ : ByteArray).size = r.length := rfl
  by_cases h0 : r.length = 0
  ·have hdd : decide ((r.length : Int) > 0) = false := decide_eq_false (by omega)
   have hdd' : decide (0 < (r.length : Int)) = false := decide_eq_false (by omega)
   have hdn : decide (0 < r.length) = false := decide_eq_false (by omega)
   have hall : s.take p = s := List.take_of_length_le (by omega)
   rw [hall] at hown hok
   have hyes : okHex s = true := by unfold okHex; rw [decide_eq_true hev, hok]; rfl
   go_wp2_with fail
   exact HΦ.out _ _ ⟨hb, .inl ⟨hyes, _, rfl, hown⟩⟩
  ·obtain ⟨Ao, co, rfl, -, -, -⟩ := hown.slice
   have hdd : decide ((r.length : Int) > 0) = true := decide_eq_true (by omega)
   have hdd' : decide (0 < (r.length : Int)) = true := decide_eq_true (by omega)
   have hdn : decide (0 < r.length) = true := decide_eq_true (by omega)
   obtain ⟨n, hn⟩ : ∃ n, min r.length 64 = n := ⟨_, rfl⟩
   have hmin : min (r.length : Int) 64 = (n : Int) := by omega
   have HRL := Lib.hid hrl
   have hn64 : n <= 64 /\ n <= r.length /\ n % 2 = 0 /\ 0 < n := by omega
   obtain ⟨c, hc⟩ : ∃ c, r.take n = c := ⟨_, rfl⟩
   have hcl : c.length = n := by rw [<- hc, List.length_take]; omega
   obtain ⟨t, ht⟩ : ∃ t, c ++ List.replicate (64 - n) (48 : UInt8) = t := ⟨_, rfl⟩
   have htl : t.length = 64 := by rw [<- ht]; simp; omega
   have hsl := fun W => run_str_to r n hn64.2.1 (by omega) W
   rw [hc] at hsl
   have hadd := fun W => run_str_add c (List.replicate (64 - n) 48) (by rw [hcl, List.length_replicate]; omega) W
   rw [ht] at hadd
   have hrep : ∀ W, Calls Tryz.prog 117 #[.string ⟨#[48]⟩, .int .i64 ((64 - n : Nat) : Int)] W fun e w' => e = .returned (.string ⟨(List.replicate (64 - n) (48 : UInt8)).toArray⟩) /\ Below W.heap.size W w' := fun W => by
    have h := Tryz.strings_Repeat ⟨#[48]⟩ (64 - n) W (by omega) (by show 1 * (64 - n) <= _; omega)
    rw [show (⟨#[48]⟩ : ByteArray).data.toList = [48] from rfl, rep_eq] at h
    exact h
   have hps := fun W => parse_any ⟨t.toArray⟩ W (by show t.length <= 1000000; omega)
   rw [show (⟨t.toArray⟩ : ByteArray).data.toList = t from rfl] at hps
   have hpl := rt_parseB_len t
   obtain ⟨H, hH⟩ : ∃ H, parseB t = H := ⟨_, rfl⟩
   obtain ⟨er, her⟩ : ∃ e, parseE t = e := ⟨_, rfl⟩
   rw [hH, her] at hps
   rw [hH] at hpl
   have HR := Lib.hid hr
   have HH := Lib.hid hH
   have HE := Lib.hid her
   have HC := Lib.hid hc
   have HT := Lib.hid ht
   have hwr := hb.size
   have hrl300 : r.length <= 300 := by omega
   clear hr hH her hc ht hrl
   go_upto_region 4 with fail
   refine (wpIn_wide (n := 0)).1 ?_
   refine wpIn_region_put wide_wide [Pr.eq (.string ⟨r.toArray⟩), Pr.eq (.int .i64 (n : Int)), Pr.eq (.string ⟨c.toArray⟩), Pr.eq (.int .i64 (n : Int)), Pr.eq (.int .i64 ((64 - n : Nat) : Int)), Pr.eq (.string ⟨(List.replicate (64 - n) (48 : UInt8)).toArray⟩), Pr.eq (.string ⟨t.toArray⟩), Pr.eq (.tuple #[.agg (hC H), .int .i64 er]), Pr.eq (.tuple #[.agg (hC H), .int .i64 er]), Pr.eq (.agg (hC H)), Pr.eq (.int .i64 er), Pr.newT wr.heap.size 25 is32, Pr.any] 11 12 25 is32 (fun cs W => cs = hC H) (fun cs W W' h _ => h) rfl rfl ⟨putOk_eq, putOk_eq, putOk_eq, putOk_eq, putOk_eq, putOk_eq, putOk_eq, putOk_eq, putOk_eq, putOk_eq, putOk_eq, putOk_new, putOk_any, trivial⟩ (by kernel_rfl) (by kernel_rfl) (by kernel_rfl) (by kernel_rfl) (by kernel_rfl) (by kernel_rfl) rfl (by decide) (by kernel_rfl) ⟨?_, ?_, ?_, ?_, ?_, ?_, ?_, ?_, ?_, ?_, ?_, ?_, ?_, trivial⟩ ?_
   ·exact putStep_val (by decide) fun ac W hL he => stepOk_want rfl (op_move rfl (he.k 0))
   ·exact putStep_val (by decide) fun ac W hL he => stepOk_want rfl (op_move rfl (he.k 3))
   ·exact putStep_val (by decide) fun ac W hL he => stepOk_want rfl (op_slice (W' := W) rfl (he.g 0 18) (rfl : _ = none) (congrArg some (he.g 1 19)) rfl (hsl W) rfl)
   ·exact putStep_val (by decide) fun ac W hL he => stepOk_want rfl (op_move rfl (he.k 3))
   ·exact putStep_val (by decide) fun ac W hL he => stepOk_want rfl (op_binOp rfl rfl (he.g 3 21) (eqg_any rfl) (subN (x := 64) (y := n) (by omega) (by omega)) rfl)
   ·refine putStep_val (by decide) fun ac W hL he => ?_; refine stepOk_want rfl ?_; have e22 : ac.eval (.tmp 22) = .int .i64 ((64 - n : Nat) : Int) := he.g 4 22; exact op_callF (vs := #[.string ⟨#[48]⟩, .int .i64 ((64 - n : Nat) : Int)]) rfl (by simp only [List.map_toArray, List.map_cons, List.map_nil, e22]; rfl) (enters_of Tryz.func117 (by kernel_rfl) rfl) ((hrep W).mono fun e W' ⟨he', hb⟩ => ⟨_, he', hb, rfl⟩)
   ·exact putStep_val (by decide) fun ac W hL he => stepOk_want rfl (op_binOp rfl (he.g 2 20) (he.g 5 23) (eqg_any rfl) (hadd W) rfl)
   ·refine putStep_val (by decide) fun ac W hL he => ?_; refine stepOk_want rfl ?_; have e0 : ac.eval (.tmp 24) = .string ⟨t.toArray⟩ := (he.g 6 24); exact op_callF (vs := #[.string ⟨t.toArray⟩]) rfl (by simp only [List.map_toArray, List.map_cons, List.map_nil, e0]) (enters_of Tryz.func116 (by kernel_rfl) rfl) (((hps W)).mono fun e W' ⟨he', hb⟩ => ⟨_, he', hb, rfl⟩)
   ·exact putStep_val (by decide) fun ac W hL he => stepOk_want rfl (op_move rfl (he.g 7 25))
   iterate 2 (exact putStep_val (by decide) fun ac W hL he => stepOk_want rfl (op_extract rfl (he.g 8 17) rfl rfl))
   ·exact putStep_val (by decide) fun ac W hL he => stepOk_want rfl (op_alloc rfl (allocH W) (below_new W _) ⟨W.heap.size, _, rfl, hL.size, hC_size [] (by simp), Row.new W _ _⟩)
   ·refine putStep_put (.tmp 26) 4 rfl rfl rfl rfl (by kernel_rfl) fun ac W g cs hL he hg hz hr => ?_; have ey := (he.g 9 26); rw [show ac.eval (.tmp 26) = .agg (hC H) from ey]; obtain ⟨W', s1, s2, s3⟩ := run_put_row (P := Tryz.prog) (T := 25) (vs := hC H) hr (by rw [hC_size H hpl, hz]) (by rw [hC_size H hpl]; exact infoH) (hC_one H); exact ⟨W', _, s1, s2, hC_size H hpl, s3, rfl⟩
   intro xs W hL hx hput hk hget
   obtain ⟨g, cs, e4, hg, kg, rfl⟩ := hput
   have v10 : xs 10 = .int .i64 er := hx 10 (by decide)
   refine last_assign rfl ((hget 10 27 (by decide) rfl).trans v10) ?_
   have hown' := hown.later hL
   have hbW := hb.trans (hL.below.mono hb.size)
   clear hx hk hget hown
   simp only [initL, lastL, putL, Nat.reduceAdd, Act.put, List.setIfInBounds_toArray, List.set_cons_succ, List.set_cons_zero]
   rw [e4]
   have hiff := hash_iff c (by omega)
   rw [hcl, HT.out] at hiff
   have hwW := hbW.size
   by_cases hcx : hexOk c = true
   ·have hish : isHash t := hiff.2 hcx
    have e0 : er = 0 := by rw [<- HE.out]; exact (if_pos hish)
    have eH : H = hp t 64 := by rw [<- HH.out]; exact (if_pos hish)
    have hHl : H.length = 32 := by rw [eH, rt_hp_len]
    have hrd : Rd W (some ⟨g, 0, none⟩) (H.take (n / 2)) := (rd_hash hHl kg).take (n / 2)
    have hHt : H.take (n / 2) = unhex c := by
     have := hp_take c (by omega) (by omega)
     rw [hcl, HT.out] at this
     rw [eH, this]
    rw [hHt] at hrd
    have hul : (unhex c).length = n / 2 := by rw [unhex_len, hcl]
    have hol : (unhex (s.take p)).length <= 300 := by rw [unhex_len, List.length_take]; omega
    have hq : IntKind.i64.wrap ((n : Int).tdiv 2) = ((n / 2 : Nat) : Int) := by
     rw [show (n : Int).tdiv 2 = ((n / 2 : Nat) : Int) from by rw [Int.tdiv_eq_ediv_of_nonneg (by omega)]; omega]
     exact IntWalk.i64_in _ (by omega)
    have hsa := run_arr_to g (n / 2) (by omega) W
    have hnh : n / 2 <= 32 := by omega
    obtain ⟨hf, hhf⟩ : ∃ h, n / 2 = h := ⟨_, rfl⟩
    rw [hhf] at hq hsa hul hnh
    have hq2 : (n : Int) / 2 = (hf : Int) := by omega
    clear hhf
    have hfr := fun W => run_str_from r n hn64.2.1 (by omega) W
    subst e0
    clear hiff hps hrep hadd hsl
    go_wp2_with (first
     | (go_at_call 32; refine (rmust_ok _ _).mono ?_; rintro e w7 ⟨h7, rfl⟩; obtain rfl := h7.symm)
     | (guard_target =~ wpList _ _ _ (_ :: _) _ _; refine wpList_append_bytes rfl (.tmp 31) (.tmp 34) 60 rfl w.heap.size 5 Tryz.underlying60 byteInfo _ (unhex (s.take p)) rfl hown' (some ⟨g, 0, none⟩) hf 32 (unhex c) rfl hul hrd (by omega) (by omega) fun v9 w9 hown9 hg9 _ => ?_)
     | fail)
    have htk : s.take (p + n) = s.take p ++ c := by rw [List.take_add, HR.out, HC.out]
    have hpl2 : (s.take p).length % 2 = 0 := by rw [List.length_take]; omega
    go_roundw
    case rel =>
     have hrL := HRL.out
     refine ⟨p + n, by omega, by omega, ?_, ?_, ?_, Below.grown hbW hg9 hwW (fun j e => (hown'.at_ j e).1)⟩
     ·rw [<- HR.out, List.drop_drop]
     ·rw [htk, unhex_app _ _ hpl2]
      exact hown9
     ·rw [htk]
      unfold hexOk at hok hcx ⊢
      rw [List.all_append, hok, hcx]
      rfl
    case measure =>
     show (⟨(r.drop n).toArray⟩ : ByteArray).size < (⟨r.toArray⟩ : ByteArray).size
     show (r.drop n).length < r.length
     rw [List.length_drop]
     omega
   ·have hish : ¬ isHash t := fun h => hcx (hiff.1 h)
    have e0 : er = 110 := by rw [<- HE.out]; exact (if_neg hish)
    have hno : okHex s = false := by
     unfold okHex
     have : hexOk s = false := by
      have h1 : hexOk c = false := by simpa using hcx
      unfold hexOk at h1 ⊢
      rw [List.all_eq_false] at h1 ⊢
      obtain ⟨x, hx1, hx2⟩ := h1
      rw [<- HC.out, <- HR.out] at hx1
      exact ⟨x, List.mem_of_mem_drop (List.mem_of_mem_take hx1), hx2⟩
     rw [this]; simp
    subst e0
    clear hiff
    go_wp2_with (first
     | (go_at_call 32; refine (rmust_no _ _).mono ?_; rintro e w7 ⟨h7, rfl⟩; obtain rfl := h7.symm)
     | fail)
    exact ⟨rfl, HΦ.out _ _ ⟨hbW, .inr ⟨hno, rfl⟩⟩⟩
theorem infoInv : (Tryz.prog.info? 51).map (·.size) = some 66 := by kernel_rfl
theorem allocInv (w : World) : (Instr.alloc 51 true (.tuple #[])).run Tryz.prog w = .ok (.pointer (some ⟨w.heap.size, 0, none⟩)) (w.alloc (.cells (hopC noHop) 51)) := by kernel_rfl
theorem buildInv0 (w : World) : (Instr.build 51 #[]).run Tryz.prog w = .ok (.agg (hopC noHop)) w := by kernel_rfl
theorem storeInv {w : World} {g : Nat} {t : TypeId} {h h' : Hop} (hw : h.wf) (hw' : h'.wf) (hr : Row w g t (hopC h)) : ∃ w', (Instr.storeAt 51 (.pointer (some ⟨g, 0, none⟩)) (.agg (hopC h'))).run Tryz.prog w = .ok () w' /\ Row w' g t (hopC h') /\ w.grownBy w' (some g) :=
 run_put_row hr (by rw [hopC_size hw, hopC_size hw']) (by rw [hopC_size hw']; exact infoInv) (hopC_one h')
theorem loadInv {w : World} {g : Nat} {t : TypeId} {h : Hop} (hw : h.wf) (hr : Row w g t (hopC h)) : (Instr.loadAt 51 (.pointer (some ⟨g, 0, none⟩))).run Tryz.prog w = .ok (.agg (hopC h)) w :=
 run_load_row hr Tryz.underlying51 rfl (by rw [hopC_size hw]; exact infoInv)
theorem boxInv {h : Hop} (hw : h.wf) (w : World) : (Instr.box 51 (.agg (hopC h))).run Tryz.prog w = .ok (.pointer (some ⟨w.heap.size, 0, none⟩)) (w.alloc (.cells (hopC h) 51)) :=
 run_box_row w _ _ (by rw [hopC_size hw]; exact infoInv)
theorem fInv2 {g o : Nat} {W : World} : (Instr.fieldAt 51 (.pointer (some ⟨g, o, none⟩)) 2).run Tryz.prog W = .ok (.pointer (some ⟨g, o + 64, none⟩)) W := by go_simp
theorem parseFn_any (q : Nat) (h : Hop) (hw : h.wf) (w : World) (hr : Row w q 51 (hopC h)) :
  Calls Tryz.prog 65 #[.pointer (some ⟨q, 0, none⟩)] w fun e w' => e = .returned (.tuple #[]) /\ Row w' q 51 (hopC noHop) /\ w.grownBy w' (some q) := by
 obtain ⟨w', hst, h1, h2⟩ := storeInv hw noHop_wf hr
 have H1 := Lib.hid h1
 have H2 := Lib.hid h2
 clear h1 h2 hr
 go_enter Tryz.func65, Tryz.ntmps65
 go_wp2_with (first
  | (guard_target =~ wpList _ _ _ (_ :: _) _ _; refine wpList_build rfl 51 _ rfl #[] rfl (buildInv0 _) ?_)
  | (guard_target =~ wpList _ _ _ (_ :: _) _ _; refine wpList_store rfl 51 (.tmp 0) (.tmp 1) rfl (.pointer (some ⟨q, 0, none⟩)) (.agg (hopC noHop)) rfl rfl hst ?_)
  | fail)
 go_end0
 exact ⟨rfl, H1.out, H2.out⟩
theorem parse_caught (q q3 : Nat) (h : Hop) (hs : h.wf) (x n : Int) (w W : World) (k2 : Row W q 51 (hopC h)) (k3 : Row W q3 28 #[.int .i64 x]) (hbW : Below w.heap.size w W) (hq : w.heap.size <= q) (hq3 : w.heap.size <= q3) :
  CallsD Tryz.prog 30 #[.pointer (some ⟨q3, 0, none⟩), .func (.func 65) #[] #[.pointer (some ⟨q, 0, none⟩)]] (.panicking (gaveUp n)) W fun e u' w' =>
   e = .returned (.tuple #[]) /\ u' = .panicking ({ v := .iface 28 (.int .i64 n), recovered := true } :: []) /\ Row w' q 51 (hopC noHop) /\ w'.cell? ⟨q3, 0, none⟩ = some (.int .i64 n) /\ Below w.heap.size w w' := by
 have hne := ne_rows k2 k3 (by decide)
 refine (rcaught_panicking q3 65 #[.pointer (some ⟨q, 0, none⟩)] n x [] W k3 (fun X X' => Row X' q 51 (hopC noHop) /\ X.grownBy X' (some q)) (enters_of Tryz.func65 (by kernel_rfl) rfl _) (fun X hX hg => (parseFn_any q h hs X (k2.grown hg (fun e => hne (Option.some.inj e)))))).mono ?_
 rintro e u' w' ⟨rfl, rfl, X, hk, hg, hp, hg2⟩
 have hb1 : Below w.heap.size w X := hbW.grown hg hbW.size (fun j e => by cases e; exact hq3)
 exact ⟨rfl, rfl, hp, ((hk.grown hg2 (fun e => hne (Option.some.inj e).symm)).cell 0).trans rfl, hb1.grown hg2 hb1.size (fun j e => by cases e; exact hq)⟩
def markL : List UInt8 := [116, 97, 108, 108, 121]
theorem parse_bad (s : List UInt8) (w : World) (hbad : Lib.hasPrefix s markL = true -> s.length <= 300 -> okHex (s.drop 5) = true -> openE (unhex (s.drop 5)) ≠ 0) :
  Calls Tryz.prog 18 #[.string ⟨s.toArray⟩] w fun e w' => e = .returned (.tuple #[.agg (hopC noHop), .int .i64 351]) /\ Below w.heap.size w w' := by
 refine Calls.post fun Φ HΦ => ?_
 have k2 := (Row.new w 51 (hopC noHop)).alloc (.cells #[.int .i64 0] 28)
 have k3 := Row.new (w.alloc (.cells (hopC noHop) 51)) 28 #[.int .i64 0]
 have hb := below_new2 w (.cells (hopC noHop) 51) (.cells #[.int .i64 0] 28)
 rw [World.size_alloc] at k3
 have hmf : ∀ (fn : Fn) (first cap : Array Value) (w : World), (Instr.makeFunc fn first cap).run Tryz.prog w = .ok (.func fn first cap) w := fun _ _ _ _ => rfl
 go_enter_defers Tryz.func18, Tryz.ntmps18
 go_upto_region 1 with (first
  | (with_reducible refine wpList_alloc rfl 51 rfl (allocInv _) ?_)
  | fail)
 obtain ⟨q, hq0⟩ : ∃ q, q = w.heap.size := ⟨_, rfl⟩
 obtain ⟨q3, hq30⟩ : ∃ q, q = w.heap.size + 1 := ⟨_, rfl⟩
 try simp only [World.size_alloc]
 rw [<- hq30] at k3 ⊢
 rw [<- hq0] at k2 ⊢
 have hq : w.heap.size <= q := by omega
 have hq3 : w.heap.size <= q3 := by omega
 have hqq : q ≠ q3 := by omega
 clear hq0 hq30
 generalize (w.alloc (.cells (hopC noHop) 51)).alloc (.cells #[.int .i64 0] 28) = w1 at *
 go_upto_region 2 with fail
 clear hmf
 have hcp : ∀ W, Calls Tryz.prog 66 #[.string ⟨s.toArray⟩, .string ⟨#[116, 97, 108, 108, 121]⟩] W fun e w' => e = .returned (.tuple #[.string ⟨(Lib.trimPrefix s markL).toArray⟩, .bool (Lib.hasPrefix s markL)]) /\ w' = W := fun W => Tryz.strings_CutPrefix ⟨s.toArray⟩ ⟨#[116, 97, 108, 108, 121]⟩ W
 have htr : Lib.hasPrefix s markL = true -> Lib.trimPrefix s markL = s.drop 5 := fun h => by unfold Lib.trimPrefix; rw [if_pos h]; rfl
 have hsz : (⟨s.toArray⟩ : ByteArray).size = s.length := rfl
 obtain ⟨b, hb0⟩ : ∃ b, Lib.hasPrefix s markL = b := ⟨_, rfl⟩
 obtain ⟨r, hr0⟩ : ∃ r, Lib.trimPrefix s markL = r := ⟨_, rfl⟩
 rw [hb0, hr0] at htr
 rw [hb0] at hbad
 rw [hb0, hr0] at hcp
 have kF2 := k2
 have kF3 := k3
 have hbF := hb
 clear hb0 hr0
 cases b with
 | false =>
  go_wp2_with (first
   | (go_at_call 66; refine (hcp _).mono ?_; clear hcp; rintro e w7 ⟨rfl, h7⟩; obtain rfl := h7.symm)
   | (go_at_call 32; refine (rmust_no _ _).mono ?_; rintro e w7 ⟨h7, rfl⟩; obtain rfl := h7.symm)
   | fail)
  refine leaves_cons (f := 30) (args := #[.pointer (some ⟨q3, 0, none⟩), .func (.func 65) #[] #[.pointer (some ⟨q, 0, none⟩)]]) (by simp) (by simp [go_sem]) ?_; refine (parse_caught q q3 _ noHop_wf _ _ w _ kF2 kF3 hbF hq hq3).mono ?_; rintro e u' w'' ⟨rfl, rfl, kQ, cE, hbG⟩; show ∃ v, _ /\ _; exact ⟨_, results_cc rfl _ _ q q3 51 (hopC noHop) _ (.int .i64 351) rfl rfl kQ Tryz.underlying51 rfl (by rw [hopC_size noHop_wf]; exact infoInv) (loadErr cE), HΦ.out _ _ ⟨rfl, hbG⟩⟩
 | true =>
  have hrd := htr rfl
  subst hrd
  by_cases hl : s.length <= 300
  case neg =>
   have hd : decide ((s.length : Int) <= 300) = false := decide_eq_false (by omega)
   have hd' : decide (s.length <= 300) = false := decide_eq_false hl
   go_wp2_with (first
    | (go_at_call 66; refine (hcp _).mono ?_; clear hcp; rintro e w7 ⟨rfl, h7⟩; obtain rfl := h7.symm)
    | (go_at_call 32; refine (rmust_no _ _).mono ?_; rintro e w7 ⟨h7, rfl⟩; obtain rfl := h7.symm)
    | fail)
   refine leaves_cons (f := 30) (args := #[.pointer (some ⟨q3, 0, none⟩), .func (.func 65) #[] #[.pointer (some ⟨q, 0, none⟩)]]) (by simp) (by simp [go_sem]) ?_; refine (parse_caught q q3 _ noHop_wf _ _ w _ kF2 kF3 hbF hq hq3).mono ?_; rintro e u' w'' ⟨rfl, rfl, kQ, cE, hbG⟩; show ∃ v, _ /\ _; exact ⟨_, results_cc rfl _ _ q q3 51 (hopC noHop) _ (.int .i64 351) rfl rfl kQ Tryz.underlying51 rfl (by rw [hopC_size noHop_wf]; exact infoInv) (loadErr cE), HΦ.out _ _ ⟨rfl, hbG⟩⟩
  have hd : decide ((s.length : Int) <= 300) = true := decide_eq_true (by omega)
  have hd' : decide (s.length <= 300) = true := decide_eq_true hl
  have hbo := fun W => bytesOf_any (s.drop 5) W (by rw [List.length_drop]; omega)
  have hul : (unhex (s.drop 5)).length <= 300 := by rw [unhex_len, List.length_drop]; omega
  have hbad2 := hbad rfl hl
  go_upto_region 4 with (first
   | (go_at_call 66; refine (hcp _).mono ?_; clear hcp; rintro e w7 ⟨rfl, h7⟩; obtain rfl := h7.symm)
   | (go_at_call 32; refine (rmust_ok _ _).mono ?_; rintro e w7 ⟨h7, rfl⟩; obtain rfl := h7.symm)
   | fail)
  clear hbad hd hd' htr
  cases hox : okHex (s.drop 5) with
  | false =>
   go_wp2_with (first
    | (go_at_call 68; refine (hbo _).mono ?_; clear hbo; rintro e w8 ⟨hb8, ⟨hy, _⟩ | ⟨_, rfl⟩⟩; exact absurd (hy.symm.trans hox) (by decide))
    | fail)
   have kF2 := k2.belowAll hb8
   have kF3 := k3.belowAll hb8
   have hbF := hb.trans (hb8.mono hb.size)
   refine leaves_cons (f := 30) (args := #[.pointer (some ⟨q3, 0, none⟩), .func (.func 65) #[] #[.pointer (some ⟨q, 0, none⟩)]]) (by simp) (by simp [go_sem]) ?_; refine (parse_caught q q3 _ noHop_wf _ _ w _ kF2 kF3 hbF hq hq3).mono ?_; rintro e u' w'' ⟨rfl, rfl, kQ, cE, hbG⟩; show ∃ v, _ /\ _; exact ⟨_, results_cc rfl _ _ q q3 51 (hopC noHop) _ (.int .i64 351) rfl rfl kQ Tryz.underlying51 rfl (by rw [hopC_size noHop_wf]; exact infoInv) (loadErr cE), HΦ.out _ _ ⟨rfl, hbG⟩⟩
  | true =>
   have hop := fun A c W (h : Rd W A (unhex (s.drop 5))) (hc : (unhex (s.drop 5)).length <= c) => open_any A _ c (unhex (s.drop 5)) W rfl (by omega) hc h
   have her := hbad2 hox
   obtain ⟨er, he0⟩ : ∃ e, openE (unhex (s.drop 5)) = e := ⟨_, rfl⟩
   have hop2 : ∀ A c W, Rd W A (unhex (s.drop 5)) -> (unhex (s.drop 5)).length <= c -> Calls Tryz.prog 67 #[.slice A (unhex (s.drop 5)).length c] W fun e w' => ∃ v, e = .returned (.tuple #[v, .int .i64 er]) /\ Own 5 w' W.heap.size v (openB (unhex (s.drop 5))) /\ Below W.heap.size W w' := fun A c W h hc => by
    have h1 := hop A c W h hc
    unfold OpenPost at h1
    rw [he0] at h1
    exact h1
   rw [he0] at her
   have e1 : (er == 0) = false := by simpa using her
   have HBO := Lib.hid hbo
   have HOP := Lib.hid hop2
   have K2 := Lib.hid k2
   have K3 := Lib.hid k3
   have HB := Lib.hid hb
   have hc3 : ∀ W, Below w1.heap.size w1 W -> W.cell? ⟨q3, 0, none⟩ = some (.int .i64 0) /\ W.frozen? ⟨q3, 0, none⟩ = false := fun W h => ⟨((k3.belowAll h).cell 0).trans rfl, (k3.belowAll h).frozen 0⟩
   have HC3 := Lib.hid hc3
   clear hbo hop hop2 k2 k3 kF2 kF3 hb hbF hc3 hbad2
   go_upto_region 5 with (first
    | (go_at_call 68; refine (HBO.out _).mono ?_; rintro e w8 ⟨hb8, ⟨_, v8, rfl, ho8⟩ | ⟨hn8, _⟩⟩; rotate_left; exact absurd (hn8.symm.trans hox) (by decide); obtain ⟨A8, c8, rfl, hcl8, _, hr8⟩ := ho8.slice)
    | (go_at_call 67; refine (HOP.out A8 c8 _ hr8 hcl8).mono ?_; rintro e w9 ⟨v9, rfl, ho9, hb9⟩; obtain ⟨A9, c9, rfl, -, -, -⟩ := ho9.slice; obtain ⟨cc, ff⟩ := HC3.out w9 (hb8.trans (hb9.mono hb8.size)))
    | fail)
   have hb19 := hb8.trans (hb9.mono hb8.size)
   have kF2 := ((K2.out.belowAll hb19).far (p := ⟨q3, 0, none⟩) hqq (.int .i64 er))
   have kF3 := (K3.out.belowAll hb19).set 0 (.int .i64 er)
   have hbF := (HB.out.trans (hb19.mono HB.out.size)).setCell (p := ⟨q3, 0, none⟩) hq3 (.int .i64 er)
   have c3 : (w9.setCell ⟨q3, 0, none⟩ (.int .i64 er)).cell? ⟨q3, 0, none⟩ = some (.int .i64 er) := (kF3.cell 0).trans rfl
   generalize w9.setCell ⟨q3, 0, none⟩ (.int .i64 er) = wF at *
   clear cc ff ho9 hr8 ho8 hb8 hb9 hb19 K2 K3 HB HBO HOP HC3
   go_wp2_with (first
    | (go_at_call 32; refine (rmust_no _ _).mono ?_; rintro e w7 ⟨h7, rfl⟩; obtain rfl := h7.symm)
    | fail)
   refine leaves_cons (f := 30) (args := #[.pointer (some ⟨q3, 0, none⟩), .func (.func 65) #[] #[.pointer (some ⟨q, 0, none⟩)]]) (by simp) (by simp [go_sem]) ?_; refine (parse_caught q q3 _ noHop_wf _ _ w _ kF2 kF3 hbF hq hq3).mono ?_; rintro e u' w'' ⟨rfl, rfl, kQ, cE, hbG⟩; show ∃ v, _ /\ _; exact ⟨_, results_cc rfl _ _ q q3 51 (hopC noHop) _ (.int .i64 351) rfl rfl kQ Tryz.underlying51 rfl (by rw [hopC_size noHop_wf]; exact infoInv) (loadErr cE), HΦ.out _ _ ⟨rfl, hbG⟩⟩
theorem rinv_any (h : Hop) (hw : h.wf) (hz : h.amt < 1) (w : World) : Calls Tryz.prog 53 #[.agg (hopC h)] w fun e w' => e = .returned (.bool false) /\ Later w w' := by
 have hbx := boxInv hw w
 have hr := Row.new w 51 (hopC h)
 have hc := cHop2 hw hr
 have hL : Later w (w.alloc (.cells (hopC h) 51)) := below_new w _
 have h1 := fun W => rin_i64 h.amt 1 1125899906842624 W
 rw [decide_eq_false (show ¬ (1 : Int) <= h.amt by omega), Bool.false_and] at h1
 have HL := Lib.hid hL
 clear hr hL
 go_enter Tryz.func53, Tryz.ntmps53
 go_wp2_with (first
  | (guard_target =~ wpList _ _ _ (_ :: _) _ _; refine wpList_box rfl 51 (.tmp 0) rfl (.agg (hopC h)) rfl hbx ?_)
  | (guard_target =~ wpList _ _ _ (_ :: _) _ _; refine wpList_field rfl 51 (.tmp 1) 2 rfl (.pointer (some ⟨w.heap.size, 0, none⟩)) rfl fInv2 ?_)
  | (go_at_call 46; refine (h1 _).mono ?_; rintro e w7 ⟨rfl, h7⟩; obtain rfl := h7.symm)
  | fail)
 go_ret
 exact ⟨rfl, HL.out⟩
theorem text_no (h : Hop) (hw : h.wf) (hz : h.amt < 1) (w : World) : Calls Tryz.prog 16 #[.agg (hopC h)] w fun e w' => e = .returned (.tuple #[.string ⟨#[]⟩, .int .i64 2]) /\ Later w w' := by
 refine Calls.post fun Φ HΦ => ?_
 have hbx := boxInv hw w
 have hr := Row.new w 51 (hopC h)
 have hld := loadInv hw hr
 have hL : Later w (w.alloc (.cells (hopC h) 51)) := below_new w _
 have h1 := fun W => rinv_any h hw hz W
 have HL := Lib.hid hL
 clear hr hL
 go_enter Tryz.func16, Tryz.ntmps16
 go_wp2_with (first
  | (guard_target =~ wpList _ _ _ (_ :: _) _ _; refine wpList_box rfl 51 (.tmp 0) rfl (.agg (hopC h)) rfl hbx ?_)
  | (guard_target =~ wpList _ _ _ (_ :: _) _ _; refine wpList_load rfl 51 (.tmp 1) rfl (.pointer (some ⟨w.heap.size, 0, none⟩)) rfl hld ?_)
  | (go_at_call 53; refine (h1 _).mono ?_; rintro e w7 ⟨rfl, hL7⟩)
  | fail)
 exact HΦ.out _ _ ⟨rfl, HL.out.step hL7⟩
end Go.Proofs.YtloiaaolnfimgaaGreat
namespace Go.Proofs.YtloiaaolnfimgaaGreat
open Go.RowKit
namespace Rt
def okE (e : Edge) : Bool := decide (0 <= e.delta) && decide (e.delta <= 1000) && rightF (e.base, e.rate)
def feesOf (l : List Edge) : List Fee1 := l.map fun e => (e.base, e.rate)
def noEdge : Edge := ⟨zh, zh, 0, 0, 0⟩
def expAt (x : Int) (l : List Edge) (i : Nat) : Int := x + ((l.drop (i + 1)).map (·.delta)).sum
def firstAt (x : Int) (sent : List Int) (l : List Edge) (i : Nat) : Hop := ⟨(l.getD i noEdge).key, (l.getD i noEdge).chan, sent.getD i 0, expAt x l i⟩
def stepAt (a x : Int) (sent : List Int) (l : List Edge) (i : Nat) : Hop :=
 if i + 1 < l.length then { firstAt x sent l (i + 1) with key := (l.getD i noEdge).key } else ⟨(l.getD i noEdge).key, zh, a, x⟩
def okPlan (a x : Int) (l : List Edge) : Bool := decide (1 <= l.length) && decide (l.length <= 6) && paid a x && l.all okE
def plan (a x : Int) (l : List Edge) : Hop × List Hop × Int :=
 if okPlan a x l then
  if (routeS a (feesOf l.tail)).2 = 0 then
   if expAt x l 0 <= 2147483647 then (firstAt x (routeS a (feesOf l.tail)).1 l 0, (List.range l.length).map (stepAt a x (routeS a (feesOf l.tail)).1 l), 0) else (noHop, [], 150)
  else (noHop, [], (routeS a (feesOf l.tail)).2)
 else (noHop, [], 2)
theorem getD_lt {α : Type} {l : List α} {i : Nat} {d : α} (h : i < l.length) : l.getD i d = l[i] := by simp [h]
theorem expAt_last (x : Int) (l : List Edge) (i : Nat) (h : l.length <= i + 1) : expAt x l i = x := by
 unfold expAt
 rw [List.drop_of_length_le h]
 simp
theorem expAt_succ (x : Int) (l : List Edge) (i : Nat) (h : i + 1 < l.length) : expAt x l i = expAt x l (i + 1) + (l.getD (i + 1) noEdge).delta := by
 unfold expAt
 rw [List.drop_eq_getElem_cons h, List.map_cons, List.sum_cons, getD_lt h]
 omega
theorem okE_delta {e : Edge} (h : okE e = true) : 0 <= e.delta /\ e.delta <= 1000 := by
 simp [okE] at h
 exact ⟨h.1.1, h.1.2⟩
theorem expAt_mono (x : Int) (l : List Edge) (ho : l.all okE = true) (i : Nat) : expAt x l (i + 1) <= expAt x l i /\ expAt x l i <= expAt x l (i + 1) + 1000 := by
 by_cases h : i + 1 < l.length
 ·have := okE_delta (List.all_eq_true.1 ho _ (List.getElem_mem h))
  rw [expAt_succ x l i h, getD_lt h]
  omega
 ·rw [expAt_last x l i (by omega), expAt_last x l (i + 1) (by omega)]
  omega
theorem expAt_le (x : Int) (l : List Edge) (ho : l.all okE = true) : ∀ i, expAt x l i <= expAt x l 0
 | 0 => Int.le_refl _
 | i + 1 => Int.le_trans (expAt_mono x l ho i).1 (expAt_le x l ho i)
theorem expAt_ge (x : Int) (l : List Edge) (ho : l.all okE = true) (i : Nat) : x <= expAt x l i /\ expAt x l i <= x + 1000 * (l.length : Int) := by
 have key : ∀ k, k <= l.length -> x <= expAt x l (l.length - k) /\ expAt x l (l.length - k) <= x + 1000 * (k : Int) := by
  intro k
  induction k with
  | zero => intro _; rw [expAt_last x l _ (by omega)]; omega
  | succ k ih =>
   intro hk
   have h1 := ih (by omega)
   have h2 := expAt_mono x l ho (l.length - (k + 1))
   rw [show l.length - (k + 1) + 1 = l.length - k by omega] at h2
   constructor
   ·omega
   ·have : (1000 : Int) * ((k + 1 : Nat) : Int) = 1000 * (k : Int) + 1000 := by omega
    omega
 by_cases h : i <= l.length
 ·have := key (l.length - i) (by omega)
  rw [show l.length - (l.length - i) = i by omega] at this
  have h3 : ((l.length - i : Nat) : Int) <= l.length := by omega
  omega
 ·rw [expAt_last x l i (by omega)]
  omega
end Rt
end Go.Proofs.YtloiaaolnfimgaaGreat
namespace Go.Proofs.YtloiaaolnfimgaaGreat
open Go.RowKit Rt
attribute [local go_sem] Oper.semAt_some
section
variable {F : Fence} {n : Nat} {P : Program} {w : World} {ops : Array Oper} {rest : List Oper} {o : Oper} {a : Act} {Q : Exit -> Act -> World -> Prop}
theorem wpListIn_on (hw : Region.wanted o (yielded ops a.tmps) = true) (h : ∀ K : Act -> World -> Prop, (∀ a w, wpListIn F n P ops Q rest a w -> K a w) -> o.wpIn F n P a w K Q) : wpListIn F n P ops Q (o :: rest) a w :=
 wpListIn_step fun K hK => by
  rw [if_pos hw]
  exact h K hK
theorem wpListIn_loadG (hw : Region.wanted o (yielded ops a.tmps) = true) (T : TypeId) (x : Operand) (ho : o.op = .load T x) (vx : Value) (hx : a.eval x = vx) {v : Value} {w' : World} (hr : (Instr.loadAt T vx).run P w = .ok v w')
  (h : wpListIn F n P ops Q rest (a.put o.dst v) w') : wpListIn F n P ops Q (o :: rest) a w := by
 refine wpListIn_on hw fun K hK => ?_
 unfold Oper.wpIn
 refine ⟨?_, ?_⟩
 ·simp [Oper.about, ho]
 ·rw [Oper.semAt_plain F _ _ (by rw [ho]; intro c hc'; cases hc')]
  simp [execOp, ho, hx, hr, Result.andThen]
  exact hK _ _ h
theorem wpListIn_idxG (hw : Region.wanted o (yielded ops a.tmps) = true) (T : TypeId) (x y : Operand) (ho : o.op = .indexAddr T x y) (vx vy : Value) (hx : a.eval x = vx) (hy : a.eval y = vy) {v : Value} {w' : World} (hr : (Instr.indexAt T vx vy).run P w = .ok v w')
  (h : wpListIn F n P ops Q rest (a.put o.dst v) w') : wpListIn F n P ops Q (o :: rest) a w := by
 refine wpListIn_on hw fun K hK => ?_
 unfold Oper.wpIn
 refine ⟨?_, ?_⟩
 ·simp [Oper.about, ho]
 ·rw [Oper.semAt_plain F _ _ (by rw [ho]; intro c hc'; cases hc')]
  simp [execOp, ho, hx, hy, hr, Result.andThen]
  exact hK _ _ h
end
structure KeepB (D : Nat -> Prop) (X Y : World) : Prop where
 size : X.heap.size <= Y.heap.size
 block : ∀ b, b < X.heap.size -> ¬ D b -> Y.heap[b]? = X.heap[b]?
theorem KeepB.trans {D : Nat -> Prop} {X Y Z : World} (h : KeepB D X Y) (k : KeepB D Y Z) : KeepB D X Z :=
 ⟨Nat.le_trans h.size k.size, fun b hb hd => (k.block b (Nat.lt_of_lt_of_le hb h.size) hd).trans (h.block b hb hd)⟩
theorem KeepB.later {D : Nat -> Prop} {X Y : World} (h : Later X Y) : KeepB D X Y := ⟨h.size, fun b hb _ => h.block b hb⟩
theorem KeepB.put {D : Nat -> Prop} (X : World) {l : Nat} (o : Obj) (h : D l) : KeepB D X (X.putObj l o) :=
 ⟨by simp [World.putObj], fun b hb hd => World.putObj_heap_other (by intro e; subst e; exact hd h)⟩
theorem KeepB.grown {D : Nat -> Prop} {X Y : World} {g : Nat} (h : X.grownBy Y (some g)) (hg : D g) : KeepB D X Y :=
 ⟨h.size, fun b hb hd => h.block b hb (fun e => by cases e; exact hd hg)⟩
theorem KeepB.row {D : Nat -> Prop} {X Y : World} {g : Nat} {t : TypeId} {cs : Array Value} (h : KeepB D X Y) (hr : Row X g t cs) (hd : ¬ D g) : Row Y g t cs := (h.block g hr.lt hd).trans hr
theorem KeepB.recs {D : Nat -> Prop} {X Y : World} {z : Nat} {A : Option Addr} {ls : List (List Value)} (h : KeepB D X Y) (hr : Recs z X A ls) (hd : ∀ b o, A = some ⟨b, o, none⟩ -> ¬ D b) : Recs z Y A ls := fun hne => by
 obtain ⟨b, o, e, hc⟩ := hr hne
 refine ⟨b, o, e, fun i hi j v hj => ?_⟩
 have h1 := hc i hi j v hj
 exact (World.cell?_of_block (h.block b (block_lt_of_cell h1) (hd b o e))).trans h1
theorem Recs.below {z : Nat} {w w' : World} {A : Option Addr} {ls : List (List Value)} (h : Recs z w A ls) (hL : Below w.heap.size w w') : Recs z w' A ls := h.later hL
def bAt (l : List Rt.Edge) (k : Nat) : Int × Rt.Edge := (((l.length - 1 - k : Nat) : Int), l.getD (l.length - 1 - k) noEdge)
abbrev bE (x : Int × Rt.Edge) : Array Value := #[.int .i64 x.1, .agg (edgeC x.2)]
theorem backE_any (A : Option Addr) (n c : Nat) (w : World) :
  Calls Tryz.prog 49 #[.slice A n c] w fun e w' => e = .returned (.func (.func 100) #[] #[.pointer (some ⟨w.heap.size, 0, none⟩)]) /\ w' = w.alloc (.cells #[.slice A n c] 40) := by
 have hmf : ∀ (fn : Fn) (first cap : Array Value) (w : World), (Instr.makeFunc fn first cap).run Tryz.prog w = .ok (.func fn first cap) w := fun _ _ _ _ => rfl
 go_enter Tryz.func49, Tryz.ntmps49
 go_wp2
 go_ret
 exact ⟨rfl, rfl⟩
theorem loadEdges {b o : Nat} {v : Value} {W : World} (hc : W.cell? ⟨b, o, none⟩ = some v) : (Instr.loadAt 40 (.pointer (some ⟨b, o, none⟩))).run Tryz.prog W = .ok v W := by
 go_simp
theorem backE1_seq (l : List Rt.Edge) (hl : ∀ e ∈ l, e.wf) (gb : Nat) (A : Option Addr) (n c : Nat) (w : World) (n1 : Nat) (hn1 : 1 <= n1) (D : Nat -> Prop) (hDb : ¬ D gb) (hDA : ∀ b o, A = some ⟨b, o, none⟩ -> ¬ D b) (hn : l.length = n) (hnm : n <= 1000000) (hA : Recs 67 w A (l.map edgeL)) (hk : Row w gb 40 #[.slice A n c]) :
  SeqW Fence.wide n1 Tryz.prog 100 #[.pointer (some ⟨gb, 0, none⟩)] bE (fun _ => KeepB D) (fun xs => xs.length = n) (fun _ => True) (fun pre x _ => pre.length < n /\ x = bAt l pre.length) (fun _ => False) w := fun k0 J Jx W hW hW2 hJ hJx hY h0 => by
 have hkW := hk.belowAll hW
 have hAW := hA.below hW
 have HY := Lib.hid hY
 have HJ := Lib.hid hJ
 have HN := Lib.hid hn
 have HL := Lib.hid hl
 clear hY hJ hJx hk hA hW hn hl
 refine callsIn_of_wp Tryz.func100 rfl trivial ?_ rfl
 simp only [Tryz.ntmps100, List.size_toArray, List.length_cons, List.length_nil, Nat.reduceAdd, Nat.reduceSub, Array.replicate_succ, Array.replicate_zero, List.push_toArray, List.append_toArray, List.nil_append, List.cons_append]
 have c1 : W.cell? ⟨gb, 0, none⟩ = some (.slice A n c) := (hkW.cell 0).trans rfl
 have e1 : IntKind.i64.wrap ((n : Int) - 1) = (n : Int) - 1 := IntWalk.i64_in _ (by omega)
 gi_wp2
 gi_loopw [3] (fun v wr => ∃ pre : List (Int × Rt.Edge), v = .int .i64 ((n : Int) - 1 - (pre.length : Int)) /\ pre.length <= n /\ Row wr gb 40 #[.slice A n c] /\ Recs 67 wr A (l.map edgeL) /\ J pre wr) (fun v _ => (intOf v + 1).toNat)
 case atStart => exact ⟨[], by simp, by simp, hkW, hAW, h0⟩
 case round =>
  obtain ⟨pre, rfl, hle, hkr, hAr, hJr⟩ := hrel
  clear hkW hAW h0 c1
  by_cases hlt : pre.length < n
  ·have hd : decide (((n : Int) - 1 - (pre.length : Int)) ≥ 0) = true := decide_eq_true (by omega)
   have hd' : decide (0 <= ((n : Int) - 1 - (pre.length : Int))) = true := decide_eq_true (by omega)
   have hi : n - 1 - pre.length < l.length := by rw [HN.out]; omega
   obtain ⟨b, o, rfl, hcell⟩ := hAr.at_ (k := n - 1 - pre.length) (by simpa using hi)
   rw [List.getElem_map] at hcell
   have hew := HL.out _ (List.getElem_mem hi)
   have hld := loadEdgeM hew hcell
   have hcv : ((n : Int) - 1 - (pre.length : Int)) = ((n - 1 - pre.length : Nat) : Int) := by omega
   have hix := fun W => idxEdge (b := b) (o := o) (n := n) (c := c) (i := n - 1 - pre.length) W (by omega)
   have hx : bAt l pre.length = (((n - 1 - pre.length : Nat) : Int), l[n - 1 - pre.length]) := by
    unfold bAt
    rw [HN.out, getD_lt hi]
   obtain ⟨fn, tmps, assign, body, hy, hR⟩ := HY.out pre (bAt l pre.length) wr hJr ⟨hlt, rfl⟩
   rw [hx] at hy hR
   have c1 : wr.cell? ⟨gb, 0, none⟩ = some (.slice (some ⟨b, o, none⟩) n c) := (hkr.cell 0).trans rfl
   have hls := loadEdges c1
   rw [hcv] at hd hd' ⊢
   have hw63 : ((n - 1 - pre.length : Nat) : Int) < 9223372036854775807 := by omega
   generalize l[n - 1 - pre.length] = ed at *
   generalize hgi : n - 1 - pre.length = i at *
   have HX := Lib.hid hx
   clear hx hcell
   gi_wp2_with (first
    | (refine wpListIn_loadG rfl 40 (.tmp 1) rfl (.pointer (some ⟨gb, 0, none⟩)) rfl hls ?_)
    | (refine wpListIn_idxG rfl 40 (.tmp 13) (.tmp 14) rfl (.slice (some ⟨b, o, none⟩) n c) (.int .i64 (i : Int)) rfl rfl (hix _) ?_)
    | (refine wpListIn_loadG rfl 44 (.tmp 15) rfl (.pointer (some ⟨b, o + i * 67, none⟩)) rfl hld ?_)
    | fail)
   refine hR.mono ?_
   rintro e Y (⟨rfl, hJ5, hk5⟩ | ⟨rfl, hJx5, hk5⟩)
   ·have hkr5 := hk5.row hkr hDb
    have hA5 := hk5.recs hAr hDA
    have e2 : IntKind.i64.wrap ((i : Int) - 1) = (i : Int) - 1 := IntWalk.i64_in _ (by omega)
    clear hkr hAr hy hR hk5 hls hix hld
    gi_wp2
    refine ⟨⟨pre ++ [((i : Int), ed)], ?_, ?_, hkr5, hA5, hJ5⟩, ?_⟩
    ·rw [List.length_append, List.length_singleton]
     congr 1
     omega
    ·rw [List.length_append, List.length_singleton]
     omega
    ·simp [intOf]
   ·gi_wp2
    refine ⟨rfl, _, results_none rfl _ _ _, ⟨_, rfl⟩, .inr ⟨_, trivial, hJx5⟩⟩
  ·have hd : decide (((n : Int) - 1 - (pre.length : Int)) ≥ 0) = false := decide_eq_false (by omega)
   have hd' : decide (0 <= ((n : Int) - 1 - (pre.length : Int))) = false := decide_eq_false (by omega)
   gi_wp2
   refine ⟨rfl, _, results_none rfl _ _ _, ⟨_, rfl⟩, .inl ⟨pre, by omega, hJr⟩⟩
end Go.Proofs.YtloiaaolnfimgaaGreat
namespace Go.Proofs.YtloiaaolnfimgaaGreat
open Go.RowKit Rt
section
variable {P : Program}
theorem callsDIn_of_wpS {n : Nat} {f : FuncId} {fn : Func} {c : Code} {args : Array Value} {u : FrameMode} {w : World} {R : Ending -> FrameMode -> World -> Prop}
  (hf : P.funcs[f]? = some fn) (hb : fn.body = some c)
  (h : ∀ (c₀ : Frame) (cs : List Frame), c₀.mode = u ->
   c.wpS P (bodyPostS P fn c₀ cs R) { tmps := args ++ Array.replicate (fn.ntmps - args.size) undef, defers := [] } (c₀ :: cs) w) :
  CallsDIn Fence.wide n P f args u w R := by
 refine ⟨trivial, fun c₀ cs hu _ => ?_⟩
 let b : Frame := { (default : Frame) with fn := f, kind := .deferred }
 have henter : Frame.enter P f args .deferred =
   b.at { tmps := args ++ Array.replicate (fn.ntmps - args.size) undef, defers := [] } [.code c] := by
  simp [Frame.enter, Frame.at, hf, hb, b]
 obtain ⟨e, a', cs', w', hq, harr⟩ := h c₀ cs hu b [] rfl rfl
 rw [<- henter] at harr
 cases e with
 | normal =>
  obtain ⟨hd, u', rfl, v, hr, hR⟩ := hq
  exact ⟨.returned v, u', w', _, hR, comesIn_wide.2 (Steps.trans harr (.one step_end)), rfl, rfl, rfl, hd, fn, hf, hr⟩
 | ret =>
  obtain ⟨hd, u', rfl, v, hr, hR⟩ := hq
  obtain ⟨todo, hs⟩ := harr
  exact ⟨.returned v, u', w', _, hR, comesIn_wide.2 hs, rfl, rfl, rfl, hd, fn, hf, hr⟩
 | panic chain =>
  obtain ⟨hd, u', rfl, hR⟩ := hq
  obtain ⟨todo, hs⟩ := harr
  exact ⟨.panicked chain, u', w', _, hR, comesIn_wide.2 hs, rfl, rfl, rfl, hd, fn, hf⟩
 | exit id => exact hq.elim
 | goto l => exact hq.elim
 | outgrown =>
  obtain ⟨u', hR⟩ := hq
  exact ⟨.outgrown, u', w', b, hR, comesIn_wide.2 (harr.resolve_left (by simp [b])), rfl, rfl, trivial⟩
theorem leavesM_cons {n : Nat} {fn : Func} {T : Array Value} {R : Ending -> World -> Prop} {d : Deferred} {ds : List Deferred} {u : FrameMode} {w : World} {fv : Fn} {cap : Array Value} {f : FuncId} {args : Array Value}
  (hu : u ≠ .run) (ht : d.target = .fn fv cap) (hi : (invoke d.target d.args).run P w = .ok (.enter f args) w)
  (hc : CallsDIn Fence.wide (n - 1) P f args u w fun
   | .returned _, u', w' => LeavesInM Fence.wide n P fn T R ds (settle u') w'
   | .panicked chain, u', w' => LeavesInM Fence.wide n P fn T R ds (raised u' chain) w'
   | .outgrown, _, w' => R .outgrown w') : LeavesInM Fence.wide n P fn T R (d :: ds) u w :=
 ⟨hu, .inr ⟨(fun h => by cases h), fv, cap, f, args, ht, hi, fun _ _ => trivial, hc⟩⟩
theorem leavesM_mark {n : Nat} {fn : Func} {T : Array Value} {R : Ending -> World -> Prop} {D : Nat} {ds : List Deferred} {u : FrameMode} {w : World} (hu : u ≠ .run) (hD : w.heap[D]? = some (.deferred (some [])))
  (h : LeavesInM Fence.wide n P fn T R ds u (w.putObj D (.deferred none))) : LeavesInM Fence.wide n P fn T R ({ target := .collected D, args := #[] } :: ds) u w :=
 ⟨hu, .inl ⟨_, _, rfl, run_takeDeferred hD, h⟩⟩
end
theorem rcaughtIn_idle (n : Nat) (e c : Value) (w : World) :
  CallsDIn Fence.wide n Tryz.prog 30 #[e, c] .returning w fun e u' w' => e = .returned (.tuple #[]) /\ u' = .returning /\ w' = w := by
 refine callsDIn_of_wpS Tryz.func30 rfl fun c₀ cs hu => ?_
 apply wpS_seq
 apply wpS_region
 simp [wpOpsS, go_sem, recoverD, hu, Tryz.ntmps30, Exit.thenS]
 refine wpS_of_wp ?_
 change Code.wp _ _ _ { tmps := #[e, c, undef, undef, .nilIface, .nilIface, undef, undef, undef, undef, undef, undef, undef, undef], defers := [] } w
 go_wp2
 exact ⟨rfl, _, by rw [<- hu], _, results_none rfl _ _ _, rfl, rfl, rfl⟩
theorem rcaughtIn_panicking (n0 : Nat) (q : Nat) (F : FuncId) (caps : Array Value) (n x : Int) (older : List PanicEntry) (w : World) (hq : Row w q 28 #[.int .i64 x]) (R : World -> World -> Prop) (hen : ∀ w, (callFunc F caps).run Tryz.prog w = .ok (.enter F caps) w)
  (hcl : ∀ W, Row W q 28 #[.int .i64 n] -> w.grownBy W (some q) -> Calls Tryz.prog F caps W fun e W' => e = .returned (.tuple #[]) /\ R W W') :
  CallsDIn Fence.wide n0 Tryz.prog 30 #[.pointer (some ⟨q, 0, none⟩), .func (.func F) #[] caps] (.panicking ({ v := .iface 28 (.int .i64 n), recovered := false } :: older)) w fun e u' w' =>
   e = .returned (.tuple #[]) /\ u' = .panicking ({ v := .iface 28 (.int .i64 n), recovered := true } :: older) /\ ∃ W, Row W q 28 #[.int .i64 n] /\ w.grownBy W (some q) /\ R W w' := by
 refine callsDIn_of_wpS Tryz.func30 rfl fun c₀ cs hu => ?_
 have hset := hq.set 0 (.int .i64 n)
 have hgr := grown_set w q 0 (.int .i64 n)
 have hcq := hcl _ hset hgr
 have hc : w.cell? ⟨q, 0, none⟩ = some (.int .i64 x) := (hq.cell 0).trans rfl
 have hf : w.frozen? ⟨q, 0, none⟩ = false := hq.frozen 0
 have HS := Lib.hid hset
 have HG := Lib.hid hgr
 have HC := Lib.hid hcq
 clear hcl hset hgr hcq hq
 have HE := Lib.hid hc
 have HF := Lib.hid hf
 clear hc hf
 apply wpS_seq
 apply wpS_region
 simp [wpOpsS, go_sem, recoverD, hu, Tryz.ntmps30, Exit.thenS]
 refine wpS_of_wp ?_
 change Code.wp _ _ _ { tmps := #[.pointer (some ⟨q, 0, none⟩), .func (.func F) #[] caps, undef, undef, .iface 28 (.int .i64 n), .iface 28 (.int .i64 n), undef, undef, undef, undef, undef, undef, undef, undef], defers := [] } w
 have hc := HE.out
 have hf := HF.out
 have hta : ∀ w : World, (Instr.typeAssert (.iface 28 (.int .i64 n)) 20 28 false).run Tryz.prog w = .ok (.int .i64 n) w := fun w => by kernel_rfl
 go_upto_region 3 with fail
 go_wp2_with fail
 refine HC.out.mono ?_
 rintro e w2 ⟨rfl, hR⟩
 go_wp2_with fail
 exact ⟨rfl, _, rfl, _, results_none rfl _ _ _, rfl, rfl, _, HS.out, HG.out, hR⟩
theorem planFn_any (q q5 : Nat) (h : Hop) (hw : h.wf) (v : Value) (w : World) (hr : Row w q 27 (hopC h)) (h5 : Row w q5 22 #[v]) :
  Calls Tryz.prog 45 #[.pointer (some ⟨q, 0, none⟩), .pointer (some ⟨q5, 0, none⟩)] w fun e w' => e = .returned (.tuple #[]) /\ Row w' q 27 (hopC noHop) /\ Row w' q5 22 #[.slice none 0 0] /\ Same (fun k => k < w.heap.size /\ k ≠ q /\ k ≠ q5) w w' := by
 have hne := ne_rows hr h5 (by decide)
 obtain ⟨w1, hst, h1, h2⟩ := storeHop hw noHop_wf hr
 have h51 := h5.grown h2 (fun e => hne (Option.some.inj e).symm)
 have h52 := h51.set 0 (.slice none 0 0)
 have h12 := h1.far (p := ⟨q5, 0, none⟩) hne (.slice none 0 0)
 have hS : Same (fun k => k < w.heap.size /\ k ≠ q /\ k ≠ q5) w (w1.setCell ⟨q5, 0, none⟩ (.slice none 0 0)) :=
  ((Same.of_grown h2).mono fun k hk => ⟨hk.1, fun e => hk.2.1 (Option.some.inj e)⟩).trans ((Same.set w1 ⟨q5, 0, none⟩ _).mono fun k hk => hk.2.2)
 have c5 : w1.cell? ⟨q5, 0, none⟩ = some v := (h51.cell 0).trans rfl
 have f5 : w1.frozen? ⟨q5, 0, none⟩ = false := h51.frozen 0
 have H1 := Lib.hid h12
 have H2 := Lib.hid h52
 have H3 := Lib.hid hS
 clear h1 h2 hr h5 h51 h52 h12 hS
 go_enter Tryz.func45, Tryz.ntmps45
 go_wp2_with (first
  | (guard_target =~ wpList _ _ _ (_ :: _) _ _; refine wpList_build rfl 27 _ rfl #[] rfl (buildHop0 _) ?_)
  | (guard_target =~ wpList _ _ _ (_ :: _) _ _; refine wpList_store rfl 27 (.tmp 0) (.tmp 2) rfl (.pointer (some ⟨q, 0, none⟩)) (.agg (hopC noHop)) rfl rfl hst ?_)
  | fail)
 go_end0
 exact ⟨rfl, H1.out, H2.out, H3.out⟩
theorem plan_caught (n0 : Nat) (q q5 q6 : Nat) (h : Hop) (hw : h.wf) (v : Value) (x n : Int) (w W : World) (k4 : Row W q 27 (hopC h)) (k5 : Row W q5 22 #[v]) (k6 : Row W q6 28 #[.int .i64 x]) (hbW : Below w.heap.size w W) (hq : w.heap.size <= q) (hq5 : w.heap.size <= q5) (hq6 : w.heap.size <= q6) :
  CallsDIn Fence.wide n0 Tryz.prog 30 #[.pointer (some ⟨q6, 0, none⟩), .func (.func 45) #[] #[.pointer (some ⟨q, 0, none⟩), .pointer (some ⟨q5, 0, none⟩)]] (.panicking (gaveUp n)) W fun e u' w' =>
   e = .returned (.tuple #[]) /\ u' = .panicking ({ v := .iface 28 (.int .i64 n), recovered := true } :: []) /\ Row w' q 27 (hopC noHop) /\ w'.cell? ⟨q5, 0, none⟩ = some (.slice none 0 0) /\ w'.cell? ⟨q6, 0, none⟩ = some (.int .i64 n) /\ Below w.heap.size w w' := by
 have hne := ne_rows k4 k6 (by decide)
 have hne5 := ne_rows k5 k6 (by decide)
 refine (rcaughtIn_panicking n0 q6 45 #[.pointer (some ⟨q, 0, none⟩), .pointer (some ⟨q5, 0, none⟩)] n x [] W k6 (fun X X' => Row X' q 27 (hopC noHop) /\ Row X' q5 22 #[.slice none 0 0] /\ Same (fun k => k < X.heap.size /\ k ≠ q /\ k ≠ q5) X X') (enters_of Tryz.func45 (by kernel_rfl) rfl _) (fun X hX hg => (planFn_any q q5 h hw v X (k4.grown hg (fun e => hne (Option.some.inj e))) (k5.grown hg (fun e => hne5 (Option.some.inj e)))))).mono ?_
 rintro e u' w' ⟨rfl, rfl, X, hk, hg, hp, hp5, hs2⟩
 have hb1 : Below w.heap.size w X := hbW.grown hg hbW.size (fun j e => by cases e; exact hq6)
 exact ⟨rfl, rfl, hp, (hp5.cell 0).trans rfl, ((hk.same hs2 ⟨hk.lt, fun e => hne e.symm, fun e => hne5 e.symm⟩).cell 0).trans rfl, hb1.trans (hs2.below_of fun k h => ⟨Nat.lt_of_lt_of_le h hb1.size, by omega, by omega⟩)⟩
theorem loadHopsVar {w : World} {g : Nat} {v : Value} (h : w.cell? ⟨g, 0, none⟩ = some v) : (loadVar 22 ⟨g, 0, none⟩).run Tryz.prog w = .ok v w := by
 go_simp
end Go.Proofs.YtloiaaolnfimgaaGreat
namespace Go.Proofs.YtloiaaolnfimgaaGreat
open Go.RowKit
theorem route_fresh (a : Int) (A : Option Addr) (n c : Nat) (fs : List Fee1) (w : World) (hn : fs.length = n) (hm : n <= 1000) (hr : RdV w A (feesC fs)) :
  Calls Tryz.prog 48 #[.int .i64 a, .slice A n c] w fun e w' => (∃ v, e = .returned (.tuple #[v, .int .i64 (routeS a fs).2]) /\ ∃ B c', v = .slice B (routeS a fs).1.length c' /\ RdV w' B ((routeS a fs).1.map numV) /\ ∀ b o, B = some ⟨b, o, none⟩ -> w.heap.size <= b) /\ Below w.heap.size w w' := by
 refine Calls.post fun Φ HΦ => ?_
 have HN := Lib.hid hn
 have hL0 := (Later.refl w).alloc (.cells #[.int .i64 a] 2)
 have hck := check_any (some ⟨w.heap.size, 0, none⟩) 1 1 [a] _ rfl (by omega) (rd1Z a w)
 have hcf := fun W (h : Later w W) => containsFee_any A n c fs W hn (by omega) (hr.later h)
 clear hn
 cases ha : amts [a] with
 | false =>
  rw [ha] at hck
  have hS : routeS a fs = ([], 2) := by unfold routeS; rw [ha]; rfl
  rw [hS] at HΦ
  clear hcf
  go_enter Tryz.func48, Tryz.ntmps48
  go_wp2_with (first
   | (refine wpList_buildSl rfl 101 1 _ rfl #[(0, .int .i64 _)] rfl (build1Z _ _) ?_)
   | (go_at_call 96; refine hck.mono ?_; clear hck; rintro e w1 ⟨rfl, hL1⟩)
   | fail)
  exact HΦ.out _ _ ⟨⟨_, rfl, none, 0, rfl, RdV.nil _ _, fun b o e => by cases e⟩, hL0.step hL1⟩
 | true =>
  rw [ha] at hck
  cases hb : fs.any (fun f => !rightF f) with
  | true =>
   rw [hb] at hcf
   have hS : routeS a fs = ([], 2) := by unfold routeS; rw [ha, hb]; rfl
   rw [hS] at HΦ
   go_enter Tryz.func48, Tryz.ntmps48
   go_wp2_with (first
    | (refine wpList_buildSl rfl 101 1 _ rfl #[(0, .int .i64 _)] rfl (build1Z _ _) ?_)
    | (go_at_call 96; refine hck.mono ?_; clear hck; rintro e w1 ⟨rfl, hL1⟩)
    | (go_at_call 97; refine (hcf _ (hL0.step hL1)).mono ?_; rintro e w2 ⟨rfl, hL2⟩)
    | fail)
   exact HΦ.out _ _ ⟨⟨_, rfl, none, 0, rfl, RdV.nil _ _, fun b o e => by cases e⟩, (hL0.step hL1).step hL2⟩
  | false =>
   rw [hb] at hcf
   have hS : routeS a fs = routeFrom a fs := by unfold routeS; rw [ha, hb]; rfl
   rw [hS] at HΦ
   have hmk := run_make_ints (n + 1) (by omega)
   rw [show (((n + 1 : Nat)) : Int) = (n : Int) + 1 by omega] at hmk
   have hbn : n <= 1000 := hm
   clear hS hb ha
   go_enter Tryz.func48, Tryz.ntmps48
   go_upto_region 4 with (first
    | (refine wpList_buildSl rfl 101 1 _ rfl #[(0, .int .i64 _)] rfl (build1Z _ _) ?_)
    | (go_at_call 96; refine hck.mono ?_; clear hck; rintro e w1 ⟨rfl, hL1⟩)
    | (go_at_call 97; refine (hcf _ (hL0.step hL1)).mono ?_; clear hcf; rintro e w2 ⟨rfl, hL2⟩)
    | fail)
   have hL3 := (hL0.step hL1).step hL2
   clear hL0 hL1 hL2 hmk
   have hrow := Row.new w2 2 ((List.replicate (n + 1) (0 : Int)).map numV).toArray
   have hcn := (hrow.cell n).trans (show _ = some (numV 0) by simp)
   have e4 := set_last (i := n) a []
   rw [List.append_nil] at e4
   have e5 : (Array.replicate (n + 1) (numV 0)).setIfInBounds n (.int .i64 a) = ((List.replicate n (0 : Int) ++ a :: []).map numV).toArray := by
    rw [<- e4]
    simp
   clear hrow e4
   go_upto_region 5 with fail
   rw [show (List.replicate n (numV 0) ++ [numV a]).toArray = ((List.replicate n (0 : Int) ++ a :: []).map numV).toArray by simp]
   have hrow4 := Row.new w2 2 ((List.replicate n (0 : Int) ++ a :: []).map numV).toArray
   have hL4 := hL3.alloc (.cells ((List.replicate n (0 : Int) ++ a :: []).map numV).toArray 2)
   have hg0 := hL3.size
   obtain ⟨g, hg⟩ : ∃ g, w2.heap.size = g := ⟨_, rfl⟩
   rw [hg] at hrow4 hg0 ⊢
   clear hL3 hcn e5 hg
   generalize w2.alloc (.cells ((List.replicate n (0 : Int) ++ a :: []).map numV).toArray 2) = w3 at *
   have HG0 := Lib.hid hg0
   clear hg0
   go_wp2_with fail
   go_loopw [30] (fun t wr => ∃ (k i : Nat) (x : Int) (l : List Int), i + k = n /\ t = .int .i64 k /\ Later w wr /\ routeFrom a (fs.drop i) = (x :: l, 0) /\ l.length = k /\ Row wr g 2 ((List.replicate i (0 : Int) ++ x :: l).map numV).toArray) (fun t _ => n - (intOf t).toNat)
   case atStart => exact ⟨0, n, a, [], by omega, rfl, hL4, by rw [List.drop_of_length_le (by rw [HN.out]; exact Nat.le_refl _)]; rfl, rfl, hrow4⟩
   case round =>
    clear hrow4 hL4
    obtain ⟨k, j, x, l, hjk, rfl, hL, hrf, hll, hrow⟩ := hrel
    by_cases hlt : k < n
    ·obtain ⟨i, rfl⟩ : ∃ i, j = i + 1 := ⟨j - 1, by omega⟩
     have hd : decide ((k : Int) < (n : Int)) = true := decide_eq_true (by omega)
     have hd' : decide (k < n) = true := decide_eq_true hlt
     have hi1 : (n : Int) - 1 - (k : Int) = (i : Int) := by omega
     have hin : i < n := by omega
     have hkl : i < fs.length := by rw [HN.out]; exact hin
     obtain ⟨b, o, rfl, hc0, hc1⟩ := fees_at (hr.later hL) hkl
     obtain ⟨f, hf⟩ : ∃ f, fs[i] = f := ⟨_, rfl⟩
     rw [hf] at hc0 hc1
     have hcx : wr.cell? ⟨g, i + 1, none⟩ = some (numV x) := (hrow.cell (i + 1)).trans (by simp)
     have hci : wr.cell? ⟨g, i, none⟩ = some (numV 0) := (hrow.cell i).trans (by rw [List.getElem?_toArray, List.getElem?_map, List.getElem?_append_left (by simp)]; simp)
     have HRF := Lib.hid hrf
     have HLL := Lib.hid hll
     have HJK := Lib.hid hjk
     clear hrf hll hjk
     go_upto_region 9 with fail
     obtain ⟨s, hs⟩ : ∃ s, sendS f.1 f.2 x = s := ⟨_, rfl⟩
     obtain ⟨y, e⟩ := s
     have hsd := fun W => send_fee f.1 f.2 x W
     simp only [hs] at hsd
     have HS := Lib.hid hs
     clear hs
     refine wp_region_list [Pr.eq (.slice (some ⟨b, o, none⟩) n c), Pr.eq (.int .i64 (i : Int)), Pr.eq (.pointer (some ⟨b, o + i * 2, none⟩)), Pr.eq (feeV f.1 f.2), Pr.eq (.slice (some ⟨g, 0, none⟩) (n + 1) (n + 1)), Pr.eq (.int .i64 (i : Int)), Pr.eq (.int .i64 ((i + 1 : Nat) : Int)), Pr.eq (.pointer (some ⟨g, 0 + (i + 1), none⟩)), Pr.eq (numV x), Pr.eq (.tuple #[.int .i64 y, .int .i64 e]), Pr.eq (.tuple #[.int .i64 y, .int .i64 e]), Pr.eq (.int .i64 y), Pr.eq (.int .i64 e), Pr.eq (.int .i64 y), Pr.eq (.int .i64 e)] (by kernel_rfl) (by kernel_rfl) (by kernel_rfl) (by kernel_rfl) ⟨?_, ?_, ?_, ?_, ?_, ?_, ?_, ?_, ?_, ?_, ?_, ?_, ?_, ?_, ?_, trivial⟩ ?_
     ·exact fun ac W hL he => stepOk_want rfl (op_move rfl (he.k 1))
     ·exact fun ac W hL he => stepOk_want rfl (op_move rfl (he.k 8))
     ·exact fun ac W hL he => stepOk_want rfl (op_idx rfl (he.g 0 39) (he.g 1 40) (idxFee hin hbn W) rfl)
     ·exact fun ac W hL he => stepOk_want rfl (op_load rfl (he.g 2 41) (run_load_fee (cell_later hc0 hL) (cell_later hc1 hL)) rfl)
     ·exact fun ac W hL he => stepOk_want rfl (op_move rfl (he.k 6))
     ·exact fun ac W hL he => stepOk_want rfl (op_move rfl (he.k 8))
     ·exact fun ac W hL he => stepOk_want rfl (op_binOp rfl (he.g 5 44) rfl rfl (addInt i (by omega) _ W) rfl)
     ·exact fun ac W hL he => stepOk_want rfl (op_idx rfl (he.g 4 43) (he.g 6 45) (idxInt (by omega) (by omega) W) rfl)
     ·exact fun ac W hL he => stepOk_want rfl (op_load rfl (he.g 7 46) (mloadInt (by rw [Nat.zero_add]; exact cell_later hcx hL)) rfl)
     ·intro ac W hL he; refine stepOk_want rfl ?_; have e0 : ac.eval (.tmp 42) = feeV f.1 f.2 := (he.g 3 42); have e1 : ac.eval (.tmp 47) = numV x := (he.g 8 47); exact op_callF (vs := #[feeV f.1 f.2, numV x]) rfl (by simp only [List.map_toArray, List.map_cons, List.map_nil, e0, e1]) (enters_of Tryz.func99 (by kernel_rfl) rfl) ((hsd W).mono fun e W' ⟨he', hb⟩ => ⟨_, he', hb, rfl⟩)
     ·exact fun ac W hL he => stepOk_want rfl (op_move rfl (he.g 9 48))
     iterate 2 (exact fun ac W hL he => stepOk_want rfl (op_extract rfl (he.g 10 38) rfl rfl))
     ·exact fun ac W hL he => stepOk_want rfl (op_assign rfl (he.g 11 49))
     ·exact fun ac W hL he => stepOk_want rfl (op_assign rfl (he.g 12 50))
     intro xs W hLW hxs
     have h9 : xs 13 = .int .i64 y := hxs 13 (by decide)
     have h10 : xs 14 = .int .i64 e := hxs 14 (by decide)
     clear hxs
     simp only [putL, Nat.reduceAdd, Act.put, List.setIfInBounds_toArray, List.set_cons_succ, List.set_cons_zero, h9, h10]
     clear h9 h10
     have hLW' := hL.step hLW
     have hrowW := hrow.later hLW
     have hci' := cell_later hci hLW
     have hfz := hrowW.frozen i
     have HFF := Lib.hid hf
     clear hsd hc0 hc1 hcx hci hrow hL hLW hf
     by_cases he : e = 0
     ·subst he
      go_wp2_with fail
      go_roundw
      case rel =>
       refine ⟨k + 1, i, y, x :: l, by have := HJK.out; omega, by go_num, ?_, ?_, by have := HLL.out; simp; omega, ?_⟩
       ·exact Below.setCell hLW' (by exact HG0.out) _
       ·have hfk := HRF.out
        have hff := HFF.out
        subst hff
        exact routeFrom_cons hkl hfk HS.out
       ·have := hrowW.set i (numV y)
        rwa [set_last] at this
      case measure => simp [intOf]; omega
     ·have e1 : (e != 0) = true := by simpa using he
      go_wp2_with fail
      have hR : routeFrom a fs = ([], e) := by
       have hff := HFF.out
       subst hff
       exact routeFrom_bad hkl HRF.out HS.out he
      rw [hR] at HΦ
      exact HΦ.out _ _ ⟨⟨_, rfl, none, 0, rfl, RdV.nil _ _, fun b o e => by cases e⟩, hLW'⟩
    ·obtain rfl : k = n := by omega
     obtain rfl : j = 0 := by omega
     have hd : decide ((k : Int) < (k : Int)) = false := decide_eq_false (by omega)
     have hd' : decide (k < k) = false := decide_eq_false (by omega)
     rw [List.drop_zero] at hrf
     rw [hrf] at HΦ
     have hrd : RdV wr (some ⟨g, 0, none⟩) ((x :: l).map numV) := RdV.row hrow
     have HLL := Lib.hid hll
     clear hrf hrow hll
     go_wp2_with fail
     exact HΦ.out _ _ ⟨⟨_, rfl, some ⟨g, 0, none⟩, k + 1, by rw [List.length_cons, HLL.out], hrd, fun b o e => by cases e; exact HG0.out⟩, hL⟩
end Go.Proofs.YtloiaaolnfimgaaGreat
namespace Go.Proofs.YtloiaaolnfimgaaGreat
open Go.RowKit Rt
attribute [local go_sem] Oper.semAt_some
section
variable {F : Fence} {n : Nat} {P : Program} {w : World} {ops : Array Oper} {rest : List Oper} {o : Oper} {a : Act} {Q : Exit -> Act -> World -> Prop}
theorem wpListIn_fieldG (hw : Region.wanted o (yielded ops a.tmps) = true) (T : TypeId) (x : Operand) (i : Nat) (ho : o.op = .fieldAddr T x i) (vx : Value) (hx : a.eval x = vx) {v : Value} {w' : World} (hr : (Instr.fieldAt T vx i).run P w = .ok v w')
  (h : wpListIn F n P ops Q rest (a.put o.dst v) w') : wpListIn F n P ops Q (o :: rest) a w := by
 refine wpListIn_on hw fun K hK => ?_
 unfold Oper.wpIn
 refine ⟨?_, ?_⟩
 ·simp [Oper.about, ho]
 ·rw [Oper.semAt_plain F _ _ (by rw [ho]; intro c hc'; cases hc')]
  simp [execOp, ho, hx, hr, Result.andThen]
  exact hK _ _ h
theorem wpListIn_buildG (hw : Region.wanted o (yielded ops a.tmps) = true) (T : TypeId) (ps : Array (Nat × Operand)) (ho : o.op = .build T ps) (vs : Array (Nat × Value)) (hv : (ps.map fun (i, x) => (i, a.eval x)) = vs) {v : Value} {w' : World} (hr : (Instr.build T vs).run P w = .ok v w')
  (h : wpListIn F n P ops Q rest (a.put o.dst v) w') : wpListIn F n P ops Q (o :: rest) a w := by
 refine wpListIn_on hw fun K hK => ?_
 unfold Oper.wpIn
 refine ⟨?_, ?_⟩
 ·simp [Oper.about, ho]
 ·rw [Oper.semAt_plain F _ _ (by rw [ho]; intro c hc'; cases hc')]
  simp only [execOp, ho, hv, hr, Result.andThen, Sem.run_bind, Sem.run_pure]
  exact hK _ _ h
theorem wpListIn_allocG (hw : Region.wanted o (yielded ops a.tmps) = true) (T : TypeId) (ho : o.op = .alloc T) {v : Value} {w' : World} (hr : (Instr.alloc T true (.tuple #[])).run P w = .ok v w')
  (h : wpListIn F n P ops Q rest (a.put o.dst v) w') : wpListIn F n P ops Q (o :: rest) a w := by
 refine wpListIn_on hw fun K hK => ?_
 unfold Oper.wpIn
 refine ⟨?_, ?_⟩
 ·simp [Oper.about, ho]
 ·rw [Oper.semAt_plain F _ _ (by rw [ho]; intro c hc'; cases hc')]
  simp [execOp, ho, hr, Result.andThen]
  exact hK _ _ h
theorem wpListIn_storeG (hw : Region.wanted o (yielded ops a.tmps) = true) (T : TypeId) (x y : Operand) (ho : o.op = .store T x y) (vx vy : Value) (hx : a.eval x = vx) (hy : a.eval y = vy) {w' : World} (hr : (Instr.storeAt T vx vy).run P w = .ok () w')
  (h : wpListIn F n P ops Q rest (a.put o.dst undef) w') : wpListIn F n P ops Q (o :: rest) a w := by
 refine wpListIn_on hw fun K hK => ?_
 unfold Oper.wpIn
 refine ⟨?_, ?_⟩
 ·simp [Oper.about, ho]
 ·rw [Oper.semAt_plain F _ _ (by rw [ho]; intro c hc'; cases hc')]
  simp [execOp, ho, hx, hy, hr, Result.andThen]
  exact hK _ _ h
end
theorem buildHopK0 (f : Nat -> Value) (a x : Int) (w : World) : (Instr.build 27 #[(0, .agg ((List.range 32).map f).toArray), (2, .int .i64 a), (3, .int .i64 x)]).run Tryz.prog w = .ok (.agg ((List.range 32).map f ++ (hC zh).toList ++ [Value.int .i64 a, Value.int .i64 x]).toArray) w := by kernel_rfl
theorem buildHopK {key : List UInt8} (hk : key.length = 32) (a x : Int) (w : World) : (Instr.build 27 #[(0, .agg (hC key)), (2, .int .i64 a), (3, .int .i64 x)]).run Tryz.prog w = .ok (.agg (hopC ⟨key, zh, a, x⟩)) w := by
 have h := arr_range (hC key) 32 (hC_size key (by omega))
 unfold hopC
 simp only
 rw [h]
 exact buildHopK0 _ a x w
theorem setFrom_part (pre cur post new : List Value) (h : cur.length = new.length) : setFrom (pre ++ cur ++ post).toArray pre.length new = (pre ++ new ++ post).toArray := by
 apply Array.ext_getElem?
 intro i
 rw [setFrom_get _ _ _ _ (by simp; omega)]
 simp only [List.getElem?_toArray]
 by_cases h1 : pre.length <= i /\ i < pre.length + new.length
 ·rw [if_pos h1, List.append_assoc, List.getElem?_append_right h1.1, List.getElem?_append_left (by omega)]
 ·rw [if_neg h1]
  by_cases h2 : i < pre.length
  ·rw [List.append_assoc, List.append_assoc, List.getElem?_append_left h2, List.getElem?_append_left h2]
  ·have h3 : pre.length + new.length <= i := by omega
   rw [List.getElem?_append_right (by simp; omega), List.getElem?_append_right (by simp; omega)]
   simp [h]
theorem hopL_eq (h : Hop) : hopL h = (hC h.key).toList ++ (hC h.next).toList ++ [.int .i64 h.amt, .int .i64 h.exp] := rfl
theorem hopC_setKey {h : Hop} (hw : h.wf) (k : List UInt8) (hk : k.length = 32) (pre post : List Value) : setFrom (pre ++ hopL h ++ post).toArray pre.length (hC k).toList = (pre ++ hopL { h with key := k } ++ post).toArray := by
 have h1 := hC_size h.key (Nat.le_of_eq hw.1)
 have h2 := hC_size k (by omega)
 rw [hopL_eq, hopL_eq]
 have e := setFrom_part pre (hC h.key).toList ((hC h.next).toList ++ [.int .i64 h.amt, .int .i64 h.exp] ++ post) (hC k).toList (by simp [h1, h2])
 simp only [List.append_assoc] at e ⊢
 exact e
theorem hopC_setNext {h : Hop} (hw : h.wf) (k : List UInt8) (hk : k.length = 32) : setFrom (hopC h) 32 (hC k).toList = hopC { h with next := k } := by
 have h1 := hC_size h.key (Nat.le_of_eq hw.1)
 have h3 := hC_size h.next (Nat.le_of_eq hw.2)
 have h2 := hC_size k (by omega)
 have e := setFrom_part (hC h.key).toList (hC h.next).toList [.int .i64 h.amt, .int .i64 h.exp] (hC k).toList (by simp [h3, h2])
 rw [Array.length_toList, h1] at e
 exact e
theorem hopC_setKey0 {h : Hop} (hw : h.wf) (k : List UInt8) (hk : k.length = 32) : setFrom (hopC h) 0 (hC k).toList = hopC { h with key := k } := by
 have e := hopC_setKey hw k hk [] []
 simpa using e
theorem hopC_setAmt {h : Hop} (hw : h.wf) (v : Int) : (hopC h).setIfInBounds 64 (.int .i64 v) = hopC { h with amt := v } := by
 have h1 := hC_size h.key (Nat.le_of_eq hw.1)
 have h3 := hC_size h.next (Nat.le_of_eq hw.2)
 unfold hopC
 rw [List.setIfInBounds_toArray, List.set_append_right _ _ (by simp [h1, h3])]
 simp [h1, h3]
theorem hopC_setExp {h : Hop} (hw : h.wf) (v : Int) : (hopC h).setIfInBounds 65 (.int .i64 v) = hopC { h with exp := v } := by
 have h1 := hC_size h.key (Nat.le_of_eq hw.1)
 have h3 := hC_size h.next (Nat.le_of_eq hw.2)
 unfold hopC
 rw [List.setIfInBounds_toArray, List.set_append_right _ _ (by simp [h1, h3])]
 simp [h1, h3]
def stRow (i : Nat) (cur : List Value) (post : List Value) : Array Value := ((List.replicate i (hopL noHop)).flatten ++ cur ++ post).toArray
theorem rep_len (i : Nat) : (List.replicate i (hopL noHop)).flatten.length = i * 66 := by
 have := rec_len 66 (List.replicate i (hopL noHop)) (fun l hl => by rw [(List.mem_replicate.1 hl).2]; exact hopL_len noHop_wf)
 rw [this, List.length_replicate]
theorem storeStep {W : World} {g i : Nat} {cur post : List Value} {h : Hop} (hw : h.wf) (hc : cur.length = 66) (hr : Row W g 27 (stRow i cur post)) : ∃ W', (Instr.storeAt 27 (.pointer (some ⟨g, 0 + i * 66, none⟩)) (.agg (hopC h))).run Tryz.prog W = .ok () W' /\ Row W' g 27 (stRow i (hopL h) post) /\ W.grownBy W' (some g) := by
 have hl := rep_len i
 obtain ⟨W', h1, h2, h3⟩ := store_part (o := 0 + i * 66) (T := 27) (vs := hopC h) hr (by rw [hopC_size hw]; exact infoHop) (by rw [hopC_size hw]; unfold stRow; simp [hl, hc]) (hopC_one h)
 refine ⟨W', h1, ?_, h3⟩
 have e := setFrom_part (List.replicate i (hopL noHop)).flatten cur post (hopL h) (by rw [hc, hopL_len hw])
 rw [hl] at e
 rw [Nat.zero_add] at h2
 unfold stRow at h2 ⊢
 rw [<- e]
 exact h2
theorem storeStepKey {W : World} {g i : Nat} {post : List Value} {h : Hop} (hw : h.wf) (k : List UInt8) (hk : k.length = 32) (hr : Row W g 27 (stRow i (hopL h) post)) : ∃ W', (Instr.storeAt 25 (.pointer (some ⟨g, 0 + i * 66, none⟩)) (.agg (hC k))).run Tryz.prog W = .ok () W' /\ Row W' g 27 (stRow i (hopL { h with key := k }) post) /\ W.grownBy W' (some g) := by
 have hl := rep_len i
 have hz := hC_size k (by omega)
 obtain ⟨W', h1, h2, h3⟩ := store_part (o := 0 + i * 66) (T := 25) (vs := hC k) hr (by rw [hz]; exact infoH) (by rw [hz]; unfold stRow; simp [hl, hopC_size hw]; omega) (hC_one k)
 refine ⟨W', h1, ?_, h3⟩
 have e := hopC_setKey hw k hk (List.replicate i (hopL noHop)).flatten post
 rw [hl] at e
 rw [Nat.zero_add] at h2
 unfold stRow at h2 ⊢
 rw [<- e]
 exact h2
theorem stRow_exp {W : World} {g i : Nat} {post : List Value} {h : Hop} (hw : h.wf) (hr : Row W g 27 (stRow i (hopL h) post)) : W.cell? ⟨g, 0 + i * 66 + 65, none⟩ = some (.int .i64 h.exp) := by
 have hl := rep_len i
 refine (hr.cell _).trans ?_
 unfold stRow
 rw [List.getElem?_toArray, List.append_assoc, List.getElem?_append_right (by rw [hl]; omega), hl, show 0 + i * 66 + 65 - i * 66 = 65 by omega, List.getElem?_append_left (by rw [hopL_len hw]; decide), Array.getElem?_toList]
 exact hopC_exp hw
theorem storeHash {W : World} {g o : Nat} {t : TypeId} {cs : Array Value} (k : List UInt8) (hk : k.length = 32) (hr : Row W g t cs) (hle : o + 32 <= cs.size) : ∃ W', (Instr.storeAt 25 (.pointer (some ⟨g, o, none⟩)) (.agg (hC k))).run Tryz.prog W = .ok () W' /\ Row W' g t (setFrom cs o (hC k).toList) /\ W.grownBy W' (some g) := by
 have hz := hC_size k (by omega)
 exact store_part hr (by rw [hz]; exact infoH) (by rw [hz]; exact hle) (hC_one k)
theorem storeI64 {W : World} {g o : Nat} {t : TypeId} {cs : Array Value} (v : Int) (hr : Row W g t cs) {u : Value} (hu : cs[o]? = some u) : (Instr.storeAt 2 (.pointer (some ⟨g, o, none⟩)) (.int .i64 v)).run Tryz.prog W = .ok () (W.setCell ⟨g, o, none⟩ (.int .i64 v)) := by
 have h0 : W.cell? ⟨g, o, none⟩ = some u := (hr.cell o).trans hu
 have h1 := hr.frozen o
 go_simp
theorem routeFrom_len (a : Int) : ∀ fs : List Fee1, (routeFrom a fs).2 = 0 -> (routeFrom a fs).1.length = fs.length + 1
 | [], _ => rfl
 | f :: fs, h => by
  have ih := routeFrom_len a fs
  unfold routeFrom at h ⊢
  by_cases h1 : (routeFrom a fs).2 = 0
  ·rw [if_pos h1] at h ⊢
   by_cases h2 : (sendS f.1 f.2 ((routeFrom a fs).1.headD 0)).2 = 0
   ·rw [if_pos h2]
    simp [ih h1]
   ·rw [if_neg h2] at h
    exact absurd h h2
  ·rw [if_neg h1] at h
   exact absurd h h1
theorem routeS_len {a : Int} {fs : List Fee1} (h : (routeS a fs).2 = 0) : (routeS a fs).1.length = fs.length + 1 := by
 unfold routeS at h ⊢
 split
 ·rename_i h1
  rw [if_pos h1] at h
  exact routeFrom_len a fs h
 ·rename_i h1
  rw [if_neg h1] at h
  exact absurd h (by decide)
theorem loadHops {b o : Nat} {v : Value} {W : World} (hc : W.cell? ⟨b, o, none⟩ = some v) : (Instr.loadAt 22 (.pointer (some ⟨b, o, none⟩))).run Tryz.prog W = .ok v W := by
 go_simp
end Go.Proofs.YtloiaaolnfimgaaGreat
namespace Go.Proofs.YtloiaaolnfimgaaGreat
open Go.RowKit Rt
structure PR (w : World) (q0 q1 q2 q3 q4 q5 : Nat) (a x : Int) (A : Option Addr) (n c : Nat) (h : Hop) (v : Value) (y : Int) (W : World) : Prop where
 r0 : Row W q0 2 #[.int .i64 a]
 r1 : Row W q1 2 #[.int .i64 x]
 r2 : Row W q2 40 #[.slice A n c]
 r3 : Row W q3 27 (hopC h)
 r4 : Row W q4 22 #[v]
 r5 : Row W q5 28 #[.int .i64 y]
 b : Below w.heap.size w W
theorem PR.later {w W W' : World} {q0 q1 q2 q3 q4 q5 : Nat} {a x : Int} {A : Option Addr} {n c : Nat} {h : Hop} {v : Value} {y : Int} (p : PR w q0 q1 q2 q3 q4 q5 a x A n c h v y W) (hL : Later W W') : PR w q0 q1 q2 q3 q4 q5 a x A n c h v y W' :=
 ⟨p.r0.later hL, p.r1.later hL, p.r2.later hL, p.r3.later hL, p.r4.later hL, p.r5.later hL, p.b.trans (hL.below.mono p.b.size)⟩
theorem allocHops (w : World) : (Instr.alloc 22 true (.tuple #[])).run Tryz.prog w = .ok (.pointer (some ⟨w.heap.size, 0, none⟩)) (w.alloc (.cells #[.slice none 0 0] 22)) := by kernel_rfl
theorem newEdge (w : World) {e : Rt.Edge} (hw : e.wf) : ∃ w', (Instr.storeAt 44 (.pointer (some ⟨w.heap.size, 0, none⟩)) (.agg (edgeC e))).run Tryz.prog (w.alloc (.cells (edgeC noEdge) 44)) = .ok () w' /\ Row w' w.heap.size 44 (edgeC e) /\ Later w w' := by
 have hz : noEdge.wf := ⟨zh_len, zh_len⟩
 obtain ⟨w', h1, h2, h3⟩ := run_put_row (P := Tryz.prog) (T := 44) (vs := edgeC e) (Row.new w 44 (edgeC noEdge)) (by rw [edgeC_size hw, edgeC_size hz]) (by rw [edgeC_size hw]; exact infoEdge) (edgeC_one e)
 exact ⟨w', h1, h2, Below.grown (below_new w _) h3 (by simp) (fun j e => by cases e; exact Nat.le_refl _)⟩
theorem allocEdge (w : World) : (Instr.alloc 44 true (.tuple #[])).run Tryz.prog w = .ok (.pointer (some ⟨w.heap.size, 0, none⟩)) (w.alloc (.cells (edgeC noEdge) 44)) := by kernel_rfl
theorem PR.grown {w W W' : World} {q0 q1 q2 q3 q4 q5 : Nat} {a x : Int} {A : Option Addr} {n c : Nat} {h : Hop} {v : Value} {y : Int} (p : PR w q0 q1 q2 q3 q4 q5 a x A n c h v y W) {row : Option Nat} (hg : W.grownBy W' row) (hr : ∀ j, row = some j -> w.heap.size <= j /\ q0 ≠ j /\ q1 ≠ j /\ q2 ≠ j /\ q3 ≠ j /\ q4 ≠ j /\ q5 ≠ j) : PR w q0 q1 q2 q3 q4 q5 a x A n c h v y W' :=
 ⟨p.r0.grown hg (fun e => (hr _ e.symm).2.1 rfl), p.r1.grown hg (fun e => (hr _ e.symm).2.2.1 rfl), p.r2.grown hg (fun e => (hr _ e.symm).2.2.2.1 rfl), p.r3.grown hg (fun e => (hr _ e.symm).2.2.2.2.1 rfl), p.r4.grown hg (fun e => (hr _ e.symm).2.2.2.2.2.1 rfl), p.r5.grown hg (fun e => (hr _ e.symm).2.2.2.2.2.2 rfl), Below.grown p.b hg p.b.size (fun j e => (hr j e).1)⟩
def feeL (f : Fee1) : List Value := [numV f.1, numV f.2]
theorem feeL_ok (f : Fee1) : (feeL f).length = 2 /\ ∀ u ∈ feeL f, u.oneCell' = true := ⟨rfl, fun u hu => by simp [feeL] at hu; rcases hu with rfl | rfl <;> rfl⟩
theorem feesC_eq : ∀ fs : List Fee1, feesC fs = (fs.map feeL).flatten
 | [] => rfl
 | f :: fs => by rw [feesC, feesC_eq fs, List.map_cons, List.flatten_cons]; rfl
theorem infoFeeF : (Tryz.prog.info? 42).map (fun i => (i.zero, i.size, i.bytes)) = some (some (Value.agg #[.int .i64 0, .int .i64 0]), 2, 16) := by kernel_rfl
theorem buildFee1 (b r : Int) (W : World) : (Instr.buildSlice 97 1 #[(0, .agg #[.int .i64 b, .int .i64 r])]).run Tryz.prog W = .ok (.slice (some ⟨W.heap.size, 0, none⟩) 1 1) (W.alloc (.cells #[.int .i64 b, .int .i64 r] 42)) := by kernel_rfl
theorem takeS_zero (b r : Int) : (takeS b r 0).2 = if rightF (b, r) then 0 else 2 := by
 unfold takeS rightF
 cases h : (amts [b] && okRate r)
 ·simp
 ·have h' := h
  simp only [Bool.and_eq_true] at h'
  have hs : shareS 0 r = (0, 0) := by
   unfold shareS
   rw [h'.2]
   simp [amts, bad, maxAmt]
  rw [hs]
  have hb : addS [b, 0] = (b, 0) := by
   have h1 := okAmt_iff h'.1
   have h2 : amts [b, 0] = true := by simp [amts, bad, maxAmt]; omega
   rw [amts_sum h2 (by simp [maxAmt]; omega)]
   simp
  simp [hb]
theorem allocInts (w : World) : (Instr.alloc 101 true (.tuple #[])).run Tryz.prog w = .ok (.pointer (some ⟨w.heap.size, 0, none⟩)) (w.alloc (.cells #[.slice none 0 0] 101)) := by kernel_rfl
def oneSl (cs : Array Value) : Prop := ∃ A n c, cs = #[.slice A n c]
theorem RdV.put1 {W W' : World} {A : Option Addr} {zs : List Int} {B0 : Nat} (h : RdV W A (zs.map numV)) (hp : Put1 B0 101 oneSl W W') : RdV W' A (zs.map numV) := by
 obtain ⟨g, cs, cs', _, hC, _, hr, _, hg⟩ := hp
 refine h.keep fun b ⟨o, e⟩ hne hb => hg.block b hb fun e2 => ?_
 have e3 := Option.some.inj e2
 subst e3
 obtain ⟨b', o', e4, hc⟩ := h.at_ (k := 0) (List.length_pos_iff.2 hne)
 rw [e] at e4
 injection e4 with e4
 injection e4 with e5 e6
 subst e5
 have h5 := (hr.cell (o' + 0)).symm.trans hc
 rw [List.getElem_map] at h5
 obtain ⟨A1, n1, c1, rfl⟩ := hC
 rcases o' with _ | o'
 ·cases h5
 ·rw [Array.getElem?_eq_none (by simp)] at h5
  cases h5
def NumsAt (B0 : Nat) (S : List Int) (B : Option Addr) (W : World) : Prop := RdV W B (S.map numV) /\ ∀ b o, B = some ⟨b, o, none⟩ -> B0 <= b
theorem NumsAt.later {B0 : Nat} {S : List Int} {B : Option Addr} {W W' : World} (h : NumsAt B0 S B W) (hL : Later W W') : NumsAt B0 S B W' := ⟨h.1.later hL, h.2⟩
def Pr.sent (B0 m : Nat) (er : Int) (S : List Int) : Pr := ⟨fun v W => ∃ B c', v = .tuple #[.slice B m c', .int .i64 er] /\ NumsAt B0 S B W, fun _ _ _ ⟨B, c', e, h⟩ hL => ⟨B, c', e, h.later hL⟩⟩
def Pr.nsl (B0 m : Nat) (S : List Int) : Pr := ⟨fun v W => ∃ B c', v = .slice B m c' /\ NumsAt B0 S B W, fun _ _ _ ⟨B, c', e, h⟩ hL => ⟨B, c', e, h.later hL⟩⟩
theorem storeInts1 {W : World} {g m c' : Nat} {B : Option Addr} {cs : Array Value} (hz : oneSl cs) (hr : Row W g 101 cs) : (Instr.storeAt 101 (.pointer (some ⟨g, 0, none⟩)) (.slice B m c')).run Tryz.prog W = .ok () (W.setCell ⟨g, 0, none⟩ (.slice B m c')) := by
 obtain ⟨A1, n1, c1, rfl⟩ := hz
 have h0 : W.cell? ⟨g, 0, none⟩ = some (.slice A1 n1 c1) := (hr.cell 0).trans rfl
 have h1 := hr.frozen 0
 go_simp
theorem storeErr1 {W : World} {g : Nat} {v : Value} {z : Int} (hr : Row W g 28 #[v]) : (Instr.storeAt 28 (.pointer (some ⟨g, 0, none⟩)) (.int .i64 z)).run Tryz.prog W = .ok () (W.setCell ⟨g, 0, none⟩ (.int .i64 z)) := by
 have h0 : W.cell? ⟨g, 0, none⟩ = some v := (hr.cell 0).trans rfl
 have h1 := hr.frozen 0
 go_simp
theorem RdV.tail2 {W : World} {A : Option Addr} {a b : Value} {vs : List Value} (h : RdV W A (a :: b :: vs)) : RdV W (A.map (·.add (1 * 2))) vs := fun _ => by
 obtain ⟨b', o, rfl, hc⟩ := h (by simp)
 refine ⟨b', o + 2, by simp [addr_add], fun i hi => ?_⟩
 have := hc (i + 2) (by simpa using hi)
 rw [show o + 2 + i = o + (i + 2) by omega]
 simpa using this
theorem slice_fees {A : Option Addr} {n ca : Nat} (h1 : 1 <= n) (h2 : n <= ca) : ∃ D, (∀ w : World, (Instr.slice 97 (.slice A n ca) (some (.int .i64 1)) none none).run Tryz.prog w = .ok (.slice D (n - 1) (ca - 1)) w) /\ ∀ (W : World) (fs : List Fee1), fs.length = n -> RdV W A (feesC fs) -> RdV W D (feesC fs.tail) := by
 obtain ⟨i, hi0, he⟩ := Option.map_eq_some_iff.1 infoFeeF
 injection he with hz he
 injection he with hsz hby
 have he : Tryz.prog.elem 97 = 42 := by simp [Program.elem, Tryz.underlying97]
 refine ⟨if ca = 1 then A else A.map (·.add (1 * 2)), fun w => ?_, fun W fs hl hr => ?_⟩
 ·rw [run_slice_l w 97 A n ca (by rw [he]; exact Tryz.underlying97) .i64 (1 : Int) (by omega) (by omega), he]
  simp [sizeOf, typeInfo, hi0, hsz, sliced]
 ·match fs, hl with
  | [], hl => simp at hl; omega
  | f :: fs, hl =>
   by_cases hc : ca = 1
   ·have : fs = [] := List.eq_nil_of_length_eq_zero (by simp at hl; omega)
    subst this
    exact RdV.nil _ _
   ·rw [if_neg hc]
    exact RdV.tail2 hr
theorem Recs.rdv {z : Nat} (hz0 : 0 < z) {W : World} {A : Option Addr} {ls : List (List Value)} (h : Recs z W A ls) (hz : ∀ l ∈ ls, l.length = z) : RdV W A ls.flatten := fun hne => by
 have hne' : ls ≠ [] := fun e => hne (by rw [e]; rfl)
 obtain ⟨b, o, rfl, hc⟩ := h hne'
 have hkl := rec_len z ls hz
 refine ⟨b, o, rfl, fun j hj => ?_⟩
 have hjl : j < ls.length * z := by rw [<- hkl]; exact hj
 have hq : j / z < ls.length := Nat.div_lt_of_lt_mul (by rw [Nat.mul_comm]; exact hjl)
 have hr : j % z < z := Nat.mod_lt _ hz0
 have e : j / z * z + j % z = j := Nat.div_add_mod' j z
 have h1 := rec_at z ls hz (j / z) hq (j % z) hr
 rw [e, List.getElem?_eq_getElem hj] at h1
 have h2 := hc (j / z) hq (j % z) _ h1.symm
 rwa [Nat.add_assoc, e] at h2
theorem putOk_sent {B0 B1 m : Nat} {er : Int} {S : List Int} : PutOk B0 101 oneSl (Pr.sent B1 m er S) := fun _ _ _ ⟨B, c', e, h⟩ hp => ⟨B, c', e, h.1.put1 hp, h.2⟩
theorem putOk_nsl {B0 B1 m : Nat} {S : List Int} : PutOk B0 101 oneSl (Pr.nsl B1 m S) := fun _ _ _ ⟨B, c', e, h⟩ hp => ⟨B, c', e, h.1.put1 hp, h.2⟩
theorem makeHops (n : Nat) (hn : n <= 6) (w : World) : (Instr.makeSlice 22 (.int .i64 (n : Int)) (.int .i64 (n : Int))).run Tryz.prog w = .ok (.slice (some ⟨w.heap.size, 0, none⟩) n n) (w.alloc (.cells (List.replicate n (hopL noHop)).flatten.toArray 27)) := by
 rcases n with _ | _ | _ | _ | _ | _ | _ | n
 ·kernel_rfl
 ·kernel_rfl
 ·kernel_rfl
 ·kernel_rfl
 ·kernel_rfl
 ·kernel_rfl
 ·kernel_rfl
 ·omega
theorem wpIn_name {F : Fence} {n : Nat} {P : Program} {c : Code} {Q : Exit -> Act -> World -> Prop} {tm : Array Value} {d : List Deferred} {w : World} (h : ∀ T, T = tm -> c.wpIn F n P Q { tmps := T, defers := d } w) : c.wpIn F n P Q { tmps := tm, defers := d } w := h tm rfl
def frst (x : Int) (S : List Int) (l : List Rt.Edge) (j : Nat) : Hop := if j = 0 then noHop else firstAt x S l (l.length - j)
def stL (a x : Int) (S : List Int) (l : List Rt.Edge) (j : Nat) : List Value := ((List.range' (l.length - j) j).map fun i => hopL (stepAt a x S l i)).flatten
structure PJ (w : World) (q0 q1 q2 q3 q4 q5 g14 gst : Nat) (a x : Int) (A : Option Addr) (n c : Nat) (l : List Rt.Edge) (S : List Int) (B : Option Addr) (c' : Nat) (j : Nat) (X : World) : Prop where
 pr : PR w q0 q1 q2 q3 q4 q5 a x A n c (frst x S l j) (.slice (some ⟨gst, 0, none⟩) n n) 0 X
 k14 : Row X g14 101 #[.slice B n c']
 st : Row X gst 27 ((List.replicate (n - j) (hopL noHop)).flatten ++ stL a x S l j).toArray
 nums : RdV X B (S.map numV)
theorem PR.same {w W W' : World} {q0 q1 q2 q3 q4 q5 : Nat} {a x : Int} {A : Option Addr} {n c : Nat} {h : Hop} {v : Value} {y : Int} (p : PR w q0 q1 q2 q3 q4 q5 a x A n c h v y W) {B : Nat} (hs : Same (fun k => k < B /\ ¬ False) W W') (h0 : q0 < B /\ q1 < B /\ q2 < B /\ q3 < B /\ q4 < B /\ q5 < B) (hB : w.heap.size <= B) : PR w q0 q1 q2 q3 q4 q5 a x A n c h v y W' :=
 ⟨p.r0.same hs ⟨h0.1, id⟩, p.r1.same hs ⟨h0.2.1, id⟩, p.r2.same hs ⟨h0.2.2.1, id⟩, p.r3.same hs ⟨h0.2.2.2.1, id⟩, p.r4.same hs ⟨h0.2.2.2.2.1, id⟩, p.r5.same hs ⟨h0.2.2.2.2.2, id⟩, p.b.trans (Same.below (hs.mono fun k hk => ⟨Nat.lt_of_lt_of_le hk hB, id⟩))⟩
theorem PJ.same {w W W' : World} {q0 q1 q2 q3 q4 q5 g14 gst : Nat} {a x : Int} {A : Option Addr} {n c : Nat} {l : List Rt.Edge} {S : List Int} {B : Option Addr} {c' j : Nat} (p : PJ w q0 q1 q2 q3 q4 q5 g14 gst a x A n c l S B c' j W) {B0 : Nat} (hs : Same (fun k => k < B0 /\ ¬ False) W W') (h0 : q0 < B0 /\ q1 < B0 /\ q2 < B0 /\ q3 < B0 /\ q4 < B0 /\ q5 < B0) (hB : w.heap.size <= B0) (h14 : g14 < B0) (hst : gst < B0) (hn : ∀ b o, B = some ⟨b, o, none⟩ -> b < B0) : PJ w q0 q1 q2 q3 q4 q5 g14 gst a x A n c l S B c' j W' :=
 ⟨p.pr.same hs h0 hB, p.k14.same hs ⟨h14, id⟩, p.st.same hs ⟨hst, id⟩, p.nums.same hs (fun b o e _ _ => ⟨hn b o e, id⟩)⟩
end Go.Proofs.YtloiaaolnfimgaaGreat
namespace Go.Proofs.YtloiaaolnfimgaaGreat
open Go.RowKit Rt
attribute [local go_sem] Oper.semAt_some
def rngBody : Code -> Option Code
 | .rangeFunc _ _ _ b => some b
 | .seq a b => match rngBody a with
  | some c => some c
  | none => rngBody b
 | .cond _ a b => match rngBody a with
  | some c => some c
  | none => rngBody b
 | .block _ c => rngBody c
 | .loop c => rngBody c
 | .scope c => rngBody c
 | _ => none
theorem loadKeyE {w : World} {g : Nat} {t : TypeId} {e : Rt.Edge} (hw : e.wf) (hr : Row w g t (edgeC e)) : (Instr.loadAt 25 (.pointer (some ⟨g, 0, none⟩))).run Tryz.prog w = .ok (.agg (hC e.key)) w := by
 have hz := hC_size e.key (Nat.le_of_eq hw.1)
 exact run_load_part hr (fun j hj => by rw [Nat.zero_add]; exact edgeC_key hw j (by omega)) Tryz.underlying25 rfl (by rw [hz]; exact infoH)
theorem loadChanE {w : World} {g : Nat} {t : TypeId} {e : Rt.Edge} (hw : e.wf) (hr : Row w g t (edgeC e)) : (Instr.loadAt 25 (.pointer (some ⟨g, 32, none⟩))).run Tryz.prog w = .ok (.agg (hC e.chan)) w := by
 have hz := hC_size e.chan (Nat.le_of_eq hw.2)
 exact run_load_part hr (fun j hj => edgeC_chan hw j (by omega)) Tryz.underlying25 rfl (by rw [hz]; exact infoH)
structure RQ (w : World) (q0 q1 q2 q3 q4 q5 g14 gst q16 : Nat) (a x : Int) (A : Option Addr) (n c : Nat) (S : List Int) (B : Option Addr) (c' : Nat) (ed : Rt.Edge) (h : Hop) (X : World) : Prop where
 pr : PR w q0 q1 q2 q3 q4 q5 a x A n c h (.slice (some ⟨gst, 0, none⟩) n n) 0 X
 k14 : Row X g14 101 #[.slice B n c']
 nums : RdV X B (S.map numV)
 r16 : Row X q16 44 (edgeC ed)
structure Apart (w : World) (q0 q1 q2 q3 q4 q5 g14 gst q16 : Nat) (B : Option Addr) : Prop where
 a0 : w.heap.size <= gst /\ w.heap.size <= q3
 a1 : q0 ≠ gst /\ q1 ≠ gst /\ q2 ≠ gst /\ q3 ≠ gst /\ q4 ≠ gst /\ q5 ≠ gst /\ g14 ≠ gst /\ q16 ≠ gst
 a3 : q0 ≠ q3 /\ q1 ≠ q3 /\ q2 ≠ q3 /\ q4 ≠ q3 /\ q5 ≠ q3 /\ g14 ≠ q3 /\ q16 ≠ q3
 ab : ∀ b o, B = some ⟨b, o, none⟩ -> b ≠ gst /\ b ≠ q3
section
variable {w X X' : World} {q0 q1 q2 q3 q4 q5 g14 gst q16 : Nat} {a x : Int} {A : Option Addr} {n c : Nat} {S : List Int} {B : Option Addr} {c' : Nat} {ed : Rt.Edge} {h h' : Hop}
theorem RQ.later (r : RQ w q0 q1 q2 q3 q4 q5 g14 gst q16 a x A n c S B c' ed h X) (hL : Later X X') : RQ w q0 q1 q2 q3 q4 q5 g14 gst q16 a x A n c S B c' ed h X' :=
 ⟨r.pr.later hL, r.k14.later hL, r.nums.later hL, r.r16.later hL⟩
theorem RQ.inst (r : RQ w q0 q1 q2 q3 q4 q5 g14 gst q16 a x A n c S B c' ed h X) (ap : Apart w q0 q1 q2 q3 q4 q5 g14 gst q16 B) (hg : X.grownBy X' (some gst)) : RQ w q0 q1 q2 q3 q4 q5 g14 gst q16 a x A n c S B c' ed h X' := by
 obtain ⟨h0, h1, h2, h3, h4, h5, h6, h7⟩ := ap.a1
 refine ⟨r.pr.grown hg (fun j e => by cases e; exact ⟨ap.a0.1, h0, h1, h2, h3, h4, h5⟩), r.k14.grown hg (fun e => h6 (Option.some.inj e)), r.nums.keep (fun b ⟨o, e⟩ _ hb => hg.block b hb (fun e2 => (ap.ab b o e).1 (Option.some.inj e2))), r.r16.grown hg (fun e => h7 (Option.some.inj e))⟩
theorem RQ.in3 (r : RQ w q0 q1 q2 q3 q4 q5 g14 gst q16 a x A n c S B c' ed h X) (ap : Apart w q0 q1 q2 q3 q4 q5 g14 gst q16 B) (hg : X.grownBy X' (some q3)) (hr : Row X' q3 27 (hopC h')) : RQ w q0 q1 q2 q3 q4 q5 g14 gst q16 a x A n c S B c' ed h' X' := by
 obtain ⟨h0, h1, h2, h4, h5, h6, h7⟩ := ap.a3
 have f : ∀ {g : Nat}, g ≠ q3 -> some g ≠ some q3 := fun hn e => hn (Option.some.inj e)
 exact ⟨⟨r.pr.r0.grown hg (f h0), r.pr.r1.grown hg (f h1), r.pr.r2.grown hg (f h2), hr, r.pr.r4.grown hg (f h4), r.pr.r5.grown hg (f h5), Below.grown r.pr.b hg r.pr.b.size (fun j e => by cases e; exact ap.a0.2)⟩, r.k14.grown hg (f h6), r.nums.keep (fun b ⟨o, e⟩ _ hb => hg.block b hb (fun e2 => (ap.ab b o e).2 (Option.some.inj e2))), r.r16.grown hg (f h7)⟩
end
theorem loadNums {b o : Nat} {v : Value} {W : World} (hc : W.cell? ⟨b, o, none⟩ = some v) : (Instr.loadAt 101 (.pointer (some ⟨b, o, none⟩))).run Tryz.prog W = .ok v W := by
 go_simp
def hopAt (h0 : Hop) (ed : Rt.Edge) (s : Int) : Nat -> Hop
 | 0 => h0
 | 1 => noHop
 | 2 => ⟨ed.key, zh, 0, 0⟩
 | 3 => ⟨ed.key, ed.chan, 0, 0⟩
 | _ => ⟨ed.key, ed.chan, s, 0⟩
theorem hopAt_wf {h0 : Hop} {ed : Rt.Edge} {s : Int} (h : h0.wf) (he : ed.wf) : ∀ k, (hopAt h0 ed s k).wf
 | 0 => h
 | 1 => noHop_wf
 | 2 => ⟨he.1, zh_len⟩
 | 3 => ⟨he.1, he.2⟩
 | _ + 4 => ⟨he.1, he.2⟩
structure CI (w : World) (q0 q1 q2 q3 q4 q5 g14 gst q16 : Nat) (a x : Int) (A : Option Addr) (n c : Nat) (S : List Int) (B : Option Addr) (c' : Nat) (ed : Rt.Edge) (X : World) (h : Hop) (ST : Array Value) (W : World) : Prop where
 r : RQ w q0 q1 q2 q3 q4 q5 g14 gst q16 a x A n c S B c' ed h W
 t : Row W gst 27 ST
 k : KeepB (fun b => b = q3 \/ b = gst) X W
theorem CI.later {w X W W' : World} {q0 q1 q2 q3 q4 q5 g14 gst q16 : Nat} {a x : Int} {A : Option Addr} {n c : Nat} {S : List Int} {B : Option Addr} {c' : Nat} {ed : Rt.Edge} {h : Hop} {ST : Array Value} (i : CI w q0 q1 q2 q3 q4 q5 g14 gst q16 a x A n c S B c' ed X h ST W) (hL : Later W W') : CI w q0 q1 q2 q3 q4 q5 g14 gst q16 a x A n c S B c' ed X h ST W' :=
 ⟨i.r.later hL, i.t.later hL, i.k.trans (KeepB.later hL)⟩
theorem CI.put {w X W W' : World} {q0 q1 q2 q3 q4 q5 g14 gst q16 : Nat} {a x : Int} {A : Option Addr} {n c : Nat} {S : List Int} {B : Option Addr} {c' : Nat} {ed : Rt.Edge} {h h' : Hop} {ST : Array Value} (i : CI w q0 q1 q2 q3 q4 q5 g14 gst q16 a x A n c S B c' ed X h ST W) (ap : Apart w q0 q1 q2 q3 q4 q5 g14 gst q16 B) (hg : W.grownBy W' (some q3)) (hr : Row W' q3 27 (hopC h')) : CI w q0 q1 q2 q3 q4 q5 g14 gst q16 a x A n c S B c' ed X h' ST W' :=
 ⟨i.r.in3 ap hg hr, i.t.grown hg (fun e => ap.a1.2.2.2.1 (Option.some.inj e).symm), i.k.trans (KeepB.grown hg (.inl rfl))⟩
theorem add64 {x y : Int} {W : World} (h1 : -9223372036854775808 <= x + y) (h2 : x + y <= 9223372036854775807) : (binOp .add 2 (.int .i64 x) (.int .i64 y)).run Tryz.prog W = .ok (.int .i64 (x + y)) W := by
 have h' : (binOp .add 2 (.int .i64 x) (.int .i64 y)).run Tryz.prog W = .ok (.int .i64 (IntKind.i64.wrap (x + y))) W := by kernel_rfl
 rw [h', IntWalk.i64_in _ (by omega)]
theorem plan_round (cd : Code) (hcd : ((Tryz.prog.funcs[(14 : Nat)]?.bind (·.body)).bind rngBody) = some cd) (w : World) (q0 q1 q2 q3 q4 q5 g14 gst q16 : Nat) (a x : Int) (A : Option Addr) (n c : Nat) (l : List Rt.Edge) (S : List Int) (B : Option Addr) (c' j i l0 n1 : Nat) (X : World) (ed : Rt.Edge) (hed : l[i]? = some ed) (hw : ∀ e ∈ l, e.wf) (hn : l.length = n) (hij : i + 1 + j = n) (hn6 : n <= 6) (hS : S.length = n) (hok : l.all okE = true) (hx : 1 <= x /\ x <= 2147483647)
  (ap : Apart w q0 q1 q2 q3 q4 q5 g14 gst q16 B) (hA : ∀ Y, Below w.heap.size w Y -> Recs 67 Y A (l.map edgeL)) (r : RQ w q0 q1 q2 q3 q4 q5 g14 gst q16 a x A n c S B c' ed (frst x S l j) X) (hst : Row X gst 27 (stRow i (hopL noHop) (stL a x S l j)))
  (Q : Exit -> Act -> World -> Prop) (hQ : expAt x l i <= 2147483647 -> ∀ a' Y, RQ w q0 q1 q2 q3 q4 q5 g14 gst q16 a x A n c S B c' ed (firstAt x S l i) Y -> Row Y gst 27 (stRow i (hopL (stepAt a x S l i)) (stL a x S l j)) -> KeepB (fun b => b = q3 \/ b = gst) X Y -> Q .normal a' Y)
  (hP : ¬ expAt x l i <= 2147483647 -> ∀ a' Y, a'.defers = [] -> RQ w q0 q1 q2 q3 q4 q5 g14 gst q16 a x A n c S B c' ed (firstAt x S l i) Y -> KeepB (fun b => b = q3 \/ b = gst) X Y -> Q (.panic (gaveUp 150)) a' Y)
  (u0 u1 u2 u8 u9 u10 u11 u12 u13 u17 u18 u19 u20 u21 u22 u23 u24 u25 u26 u27 u28 u29 u30 u31 u32 u33 u34 u35 u36 u37 u38 u39 u40 u41 u42 u43 u44 u45 u46 u47 u48 u49 u50 u51 u52 u53 u54 u55 u56 u57 u58 u59 u60 u61 u62 u63 u64 u65 u66 u67 u68 u69 u70 u71 u72 u73 u74 u75 u76 u77 u78 u79 u80 u81 u82 u83 u84 u85 u86 u87 u88 u89 u90 u91 u92 u93 u94 u95 u96 u97 u98 u99 u100 u101 u102 u103 u104 u105 u106 u107 u108 u109 u110 u111 u112 u113 u114 u115 u116 u117 u118 u119 u120 u121 u122 u123 u124 u125 u126 u127 u128 u129 : Value) :
  cd.wpIn (Fence.wide.inRound l0) n1 Tryz.prog Q { tmps := #[u0, u1, u2, .pointer (some ⟨q0, 0, none⟩), .pointer (some ⟨q1, 0, none⟩), .pointer (some ⟨q2, 0, none⟩), .pointer (some ⟨q3, 0, none⟩), .pointer (some ⟨q4, 0, none⟩), u8, u9, u10, u11, u12, u13, .pointer (some ⟨g14, 0, none⟩), .int .i64 (i : Int), .pointer (some ⟨q16, 0, none⟩), u17, u18, u19, u20, u21, u22, u23, u24, u25, u26, u27, u28, u29, u30, u31, u32, u33, u34, u35, u36, u37, u38, u39, u40, u41, u42, u43, u44, u45, u46, u47, u48, u49, u50, u51, u52, u53, u54, u55, u56, u57, u58, u59, u60, u61, u62, u63, u64, u65, u66, u67, u68, u69, u70, u71, u72, u73, u74, u75, u76, u77, u78, u79, u80, u81, u82, u83, u84, u85, u86, u87, u88, u89, u90, u91, u92, u93, u94, u95, u96, u97, u98, u99, u100, u101, u102, u103, u104, u105, u106, u107, u108, u109, u110, u111, u112, u113, u114, u115, u116, u117, u118, u119, u120, u121, u122, u123, u124, u125, u126, u127, u128, u129], defers := [] } X := by
 conv at hcd => lhs; whnf
 injection hcd with hcd
 subst hcd
 have hil : i < l.length := by rw [hn]; omega
 have he : l[i] = ed := by rw [List.getElem?_eq_getElem hil] at hed; exact Option.some.inj hed
 have hew : ed.wf := by rw [<- he]; exact hw _ (List.getElem_mem hil)
 have l7 := loadHops ((r.pr.r4.cell 0).trans rfl)
 have lk := loadKeyE hew r.r16
 have c0 : X.cell? ⟨q0, 0, none⟩ = some (.int .i64 a) := (r.pr.r0.cell 0).trans rfl
 have c1 : X.cell? ⟨q1, 0, none⟩ = some (.int .i64 x) := (r.pr.r1.cell 0).trans rfl
 have ix := fun W => idxHop (b := gst) (o := 0) (n := n) (c := n) (i := i) W (by omega)
 have bld := fun W => buildHopK hew.1 a x W
 have hw1 : (⟨ed.key, zh, a, x⟩ : Hop).wf := ⟨hew.1, zh_len⟩
 obtain ⟨X1, s1, t1, g1⟩ := storeStep hw1 (hopL_len noHop_wf) hst
 have r1 := r.inst ap g1
 have K1 : KeepB (fun b => b = q3 \/ b = gst) X X1 := KeepB.grown g1 (.inr rfl)
 have wr1 : IntKind.i64.wrap ((i : Int) + 1) = (i : Int) + 1 := IntWalk.i64_in _ (by omega)
 have l5 := fun Y (h : RQ w q0 q1 q2 q3 q4 q5 g14 gst q16 a x A n c S B c' ed (frst x S l j) Y) => loadEdges ((h.pr.r2.cell 0).trans rfl)
 have hcS0 := r.nums
 obtain ⟨bB, oB, rfl, -⟩ := hcS0.at_ (k := i) (by rw [List.length_map, hS]; omega)
 have hcS : ∀ W, RdV W (some ⟨bB, oB, none⟩) (S.map numV) -> W.cell? ⟨bB, oB + i, none⟩ = some (.int .i64 (S.getD i 0)) := fun W h => by
  obtain ⟨b', o', e', hc⟩ := h.at_ (k := i) (by rw [List.length_map, hS]; omega)
  injection e' with e'
  injection e' with e1 e2
  subst e1 e2
  rw [hc, List.getElem_map, getD_lt (by omega)]
 clear hcS0
 have T1 := Lib.hid t1
 have G1 := Lib.hid g1
 have HQ := Lib.hid hQ
 have HP := Lib.hid hP
 have R1 := Lib.hid r1
 have KK1 := Lib.hid K1
 have l51 := l5 _ r1
 clear t1 g1 hQ hP K1 hst hed l5
 by_cases hj : j = 0
 ·have hd : decide ((i : Int) + 1 < (n : Int)) = false := decide_eq_false (by omega)
  gi_wp2_with (first
   | (refine wpListIn_loadG rfl 22 (.tmp 7) rfl (.pointer (some ⟨q4, 0, none⟩)) rfl l7 ?_)
   | (refine wpListIn_fieldG rfl 44 (.tmp 16) 0 rfl (.pointer (some ⟨q16, 0, none⟩)) rfl fEdge0 ?_)
   | (refine wpListIn_loadG rfl 25 (.tmp 72) rfl (.pointer (some ⟨q16, 0, none⟩)) rfl lk ?_)
   | (refine wpListIn_buildG rfl 27 _ rfl #[(0, .agg (hC ed.key)), (2, .int .i64 a), (3, .int .i64 x)] (by simp only [List.map_toArray, List.map_cons, List.map_nil]; rfl) (bld _) ?_)
   | (refine wpListIn_idxG rfl 22 _ _ rfl (.slice (some ⟨gst, 0, none⟩) n n) (.int .i64 (i : Int)) rfl rfl (ix _) ?_)
   | (refine wpListIn_storeG rfl 27 (.tmp 77) (.tmp 76) rfl (.pointer (some ⟨gst, 0 + i * 66, none⟩)) (.agg (hopC ⟨ed.key, zh, a, x⟩)) rfl rfl s1 ?_)
   | (refine wpListIn_loadG rfl 40 (.tmp 5) rfl (.pointer (some ⟨q2, 0, none⟩)) rfl l51 ?_)
   | fail)
  have hss : stepAt a x S l i = ⟨ed.key, zh, a, x⟩ := by
   unfold stepAt
   rw [if_neg (by omega), getD_lt hil, he]
  have hfw : (frst x S l j).wf := by subst hj; exact noHop_wf
  have hCI : CI w q0 q1 q2 q3 q4 q5 g14 gst q16 a x A n c S (some ⟨bB, oB, none⟩) c' ed X (hopAt (frst x S l j) ed (S.getD i 0) 0) (stRow i (hopL (stepAt a x S l i)) (stL a x S l j)) X1 := ⟨R1.out, by rw [hss]; exact T1.out, KK1.out⟩
  refine wpIn_region_chain (wide_round l0) [.pointer (some ⟨q16, 0, none⟩), .agg (hC ed.key), .pointer (some ⟨q16, 32, none⟩), .agg (hC ed.chan), .slice (some ⟨bB, oB, none⟩) n c', .int .i64 (i : Int), .pointer (some ⟨bB, oB + i, none⟩), .int .i64 (S.getD i 0), .int .i64 x, undef, .pointer (some ⟨q3, 0, none⟩), undef, .pointer (some ⟨q3, 32, none⟩), undef, .pointer (some ⟨q3, 64, none⟩), undef, .pointer (some ⟨q3, 65, none⟩)] [9, 11, 13, 15] (fun m W => CI w q0 q1 q2 q3 q4 q5 g14 gst q16 a x A n c S (some ⟨bB, oB, none⟩) c' ed X (hopAt (frst x S l j) ed (S.getD i 0) m) (stRow i (hopL (stepAt a x S l i)) (stL a x S l j)) W) (fun m W W' hL h => h.later hL) hCI (by kernel_rfl) (by kernel_rfl) (by kernel_rfl) (by kernel_rfl) (by kernel_rfl) (by kernel_rfl) rfl (by decide) rfl ⟨?_, ?_, ?_, ?_, ?_, ?_, ?_, ?_, ?_, ?_, ?_, ?_, ?_, ?_, ?_, ?_, ?_, trivial⟩ ?_
  ·exact chStep_val rfl (fun ac W m he hA => stepOk_want rfl (op_fieldAddr rfl (he.k 16) fEdge0 rfl))
  ·exact chStep_val rfl (fun ac W m he hA => stepOk_want rfl (op_load rfl (show ac.eval (.tmp 93) = .pointer (some ⟨q16, 0, none⟩) from he.v 0 93) (loadKeyE hew hA.r.r16) rfl))
  ·exact chStep_val rfl (fun ac W m he hA => stepOk_want rfl (op_fieldAddr rfl (he.k 16) fEdge1 rfl))
  ·exact chStep_val rfl (fun ac W m he hA => stepOk_want rfl (op_load rfl (show ac.eval (.tmp 95) = .pointer (some ⟨q16, 32, none⟩) from he.v 2 95) (loadChanE hew hA.r.r16) rfl))
  ·exact chStep_val rfl (fun ac W m he hA => stepOk_want rfl (op_load rfl (he.k 14) (loadNums ((hA.r.k14.cell 0).trans rfl)) rfl))
  ·exact chStep_val rfl (fun ac W m he hA => stepOk_want rfl (op_move rfl (he.k 15)))
  ·exact chStep_val rfl (fun ac W m he hA => stepOk_want rfl (op_idx rfl (show ac.eval (.tmp 97) = .slice (some ⟨bB, oB, none⟩) n c' from he.v 4 97) (show ac.eval (.tmp 98) = .int .i64 (i : Int) from he.v 5 98) (idxInt (by omega) (by omega) W) rfl))
  ·exact chStep_val rfl (fun ac W m he hA => stepOk_want rfl (op_load rfl (show ac.eval (.tmp 99) = .pointer (some ⟨bB, oB + i, none⟩) from he.v 6 99) (ldI64 (hcS W hA.r.nums)) rfl))
  ·exact chStep_val rfl (fun ac W m he hA => stepOk_want rfl (op_load rfl (he.k 4) (ldI64 ((hA.r.pr.r1.cell 0).trans rfl)) rfl))
  ·refine chStep_put (k := 0) rfl (.inl rfl) (fun ac W he hA => ⟨rfl, ?_⟩)
   obtain ⟨W', hs, h1, h2⟩ := storeHop (hopAt_wf hfw hew 0) noHop_wf hA.r.pr.r3
   exact op_storeK rfl (he.k 6) (by kernel_rfl) hs ⟨undef, rfl, hA.put ap h2 h1⟩
  ·exact chStep_val rfl (fun ac W m he hA => stepOk_want rfl (op_fieldAddr rfl (he.k 6) fHop0 rfl))
  ·refine chStep_put (k := 1) rfl (.inr (by kernel_rfl)) (fun ac W he hA => ⟨rfl, ?_⟩)
   have hw1 := hopAt_wf hfw hew (s := S.getD i 0) 1
   obtain ⟨W', hs, h1, h2⟩ := storeHash ed.key hew.1 hA.r.pr.r3 (o := 0) (by rw [hopC_size hw1]; decide)
   rw [hopC_setKey0 hw1 _ hew.1] at h1
   exact op_storeK rfl (show ac.eval (.tmp 102) = .pointer (some ⟨q3, 0, none⟩) from he.v 10 102) (show ac.eval (.tmp 94) = .agg (hC ed.key) from he.v 1 94) hs ⟨undef, rfl, hA.put ap h2 h1⟩
  ·exact chStep_val rfl (fun ac W m he hA => stepOk_want rfl (op_fieldAddr rfl (he.k 6) fHop1 rfl))
  ·refine chStep_put (k := 2) rfl (.inr (by kernel_rfl)) (fun ac W he hA => ⟨rfl, ?_⟩)
   have hw1 := hopAt_wf hfw hew (s := S.getD i 0) 2
   obtain ⟨W', hs, h1, h2⟩ := storeHash ed.chan hew.2 hA.r.pr.r3 (o := 32) (by rw [hopC_size hw1]; decide)
   rw [hopC_setNext hw1 _ hew.2] at h1
   exact op_storeK rfl (show ac.eval (.tmp 103) = .pointer (some ⟨q3, 32, none⟩) from he.v 12 103) (show ac.eval (.tmp 96) = .agg (hC ed.chan) from he.v 3 96) hs ⟨undef, rfl, hA.put ap h2 h1⟩
  ·exact chStep_val rfl (fun ac W m he hA => stepOk_want rfl (op_fieldAddr rfl (he.k 6) fHop2 rfl))
  ·refine chStep_put (k := 3) rfl (.inr (by kernel_rfl)) (fun ac W he hA => ⟨rfl, ?_⟩)
   have hw1 := hopAt_wf hfw hew (s := S.getD i 0) 3
   have hs := storeI64 (o := 64) (S.getD i 0) hA.r.pr.r3 (hopC_amt hw1)
   have h1 := hA.r.pr.r3.set 64 (.int .i64 (S.getD i 0))
   rw [hopC_setAmt hw1] at h1
   exact op_storeK rfl (show ac.eval (.tmp 104) = .pointer (some ⟨q3, 64, none⟩) from he.v 14 104) (show ac.eval (.tmp 100) = .int .i64 (S.getD i 0) from he.v 7 100) hs ⟨undef, rfl, hA.put ap (grown_set W q3 64 _) h1⟩
  ·exact chStep_val rfl (fun ac W m he hA => stepOk_want rfl (op_fieldAddr rfl (he.k 6) fHop3 rfl))
  intro xs W hA4 hxs hk hgt
  have hA4 : CI w q0 q1 q2 q3 q4 q5 g14 gst q16 a x A n c S (some ⟨bB, oB, none⟩) c' ed X (hopAt (frst x S l j) ed (S.getD i 0) 4) (stRow i (hopL (stepAt a x S l i)) (stL a x S l j)) W := hA4
  have hw4 := hopAt_wf hfw hew (s := S.getD i 0) 4
  have hs := storeI64 (o := 65) x hA4.r.pr.r3 (hopC_exp hw4)
  have h1 := hA4.r.pr.r3.set 65 (.int .i64 x)
  rw [hopC_setExp hw4] at h1
  have hA5 := hA4.put ap (grown_set W q3 65 (.int .i64 x)) h1
  refine last_store rfl rfl ((hgt 16 105 (by decide) (by kernel_rfl)).trans (show xs 16 = .pointer (some ⟨q3, 65, none⟩) from hxs 16 (by decide) rfl)) ((hgt 8 101 (by decide) (by kernel_rfl)).trans (show xs 8 = .int .i64 x from hxs 8 (by decide) rfl)) hs ?_
  clear hxs hk hgt hA4 hs h1 hCI
  simp only [initL, lastL, putL, Nat.reduceAdd, Act.put, List.setIfInBounds_toArray, List.set_cons_succ, List.set_cons_zero]
  generalize W.setCell ⟨q3, 65, none⟩ (.int .i64 x) = W5 at *
  have hfe : ({ hopAt (frst x S l j) ed (S.getD i 0) 4 with exp := x } : Hop) = firstAt x S l i := by
   unfold firstAt
   rw [getD_lt hil, he, expAt_last x l i (by omega)]
   rfl
  rw [hfe] at hA5
  have hex : expAt x l i = x := expAt_last x l i (by omega)
  have l5b := loadEdges ((hA5.r.pr.r2.cell 0).trans rfl)
  have c65 : W5.cell? ⟨q3, 65, none⟩ = some (.int .i64 x) := (cHop3 (by rw [<- hfe]; exact hw4) hA5.r.pr.r3).trans (by rw [show (firstAt x S l i).exp = x from hex])
  have hle : decide (x <= 2147483647) = true := decide_eq_true hx.2
  gi_wp2_with (first
   | (refine wpListIn_loadG rfl 40 (.tmp 5) rfl (.pointer (some ⟨q2, 0, none⟩)) rfl l5b ?_)
   | (refine wpListIn_fieldG rfl 27 (.tmp 6) 3 rfl (.pointer (some ⟨q3, 0, none⟩)) rfl fHop3 ?_)
   | fail)
  refine ⟨trivial, (fun h => by cases h), (CallsIn.inRound l0 (callsIn_wide.2 (rmust_ok 150 W5))).mono ?_⟩
  rintro e W9 ⟨h7, rfl⟩
  obtain rfl := h7.symm
  gi_wp2
  exact HQ.out (by rw [hex]; exact hx.2) _ _ hA5.r hA5.t hA5.k
 ·have hd : decide ((i : Int) + 1 < (n : Int)) = true := decide_eq_true (by omega)
  have hil1 : i + 1 < l.length := by omega
  obtain ⟨ed1, he1⟩ : ∃ e, l[i + 1] = e := ⟨_, rfl⟩
  obtain ⟨bA, oA, rfl, -⟩ := (hA X r.pr.b).at_ (k := i + 1) (by rw [List.length_map]; exact hil1)
  have hcdel : ∀ Y, Below w.heap.size w Y -> Y.cell? ⟨bA, oA + (i + 1) * 67 + 66, none⟩ = some (.int .i64 ed1.delta) := fun Y hY => by
   obtain ⟨b', o', e', hc⟩ := (hA Y hY).at_ (k := i + 1) (by rw [List.length_map]; exact hil1)
   injection e' with e'
   injection e' with e1 e2
   subst e1 e2
   refine hc 66 _ ?_
   rw [List.getElem_map, he1, Array.getElem?_toList]
   exact (edgeC_num (by rw [<- he1]; exact hw _ (List.getElem_mem hil1))).2.2
  have hfr : frst x S l j = firstAt x S l (i + 1) := by
   unfold frst
   rw [if_neg hj, hn, show n - j = i + 1 by omega]
  have hew1 := hw _ (List.getElem_mem hil1)
  have hfw : (frst x S l j).wf := by
   rw [hfr]
   unfold firstAt
   rw [getD_lt hil1]
   exact hew1
  have hss : stepAt a x S l i = { frst x S l j with key := ed.key } := by
   unfold stepAt
   rw [if_pos hil1, getD_lt hil, he, hfr]
  obtain ⟨X2, s2, t2, g2⟩ := storeStep hfw (hopL_len hw1) T1.out
  have r2 := R1.out.inst ap g2
  obtain ⟨X3, s3, t3, g3⟩ := storeStepKey hfw ed.key hew.1 t2
  have r3 := r2.inst ap g3
  have K3 : KeepB (fun b => b = q3 \/ b = gst) X X3 := (KK1.out.trans (KeepB.grown g2 (.inr rfl))).trans (KeepB.grown g3 (.inr rfl))
  rw [<- hss] at t3
  have l71 := loadHops ((R1.out.pr.r4.cell 0).trans rfl)
  have l72 := loadHops ((r2.pr.r4.cell 0).trans rfl)
  have lh := loadHopR hfw R1.out.pr.r3
  have lk2 := loadKeyE hew r2.r16
  have R2 := Lib.hid r2
  have R3 := Lib.hid r3
  have KK3 := Lib.hid K3
  have T3 := Lib.hid t3
  clear r2 r3 K3 t3 t2 g2 g3
  gi_wp2_with (first
   | (refine wpListIn_loadG rfl 22 (.tmp 7) rfl (.pointer (some ⟨q4, 0, none⟩)) rfl l7 ?_)
   | (refine wpListIn_loadG rfl 22 (.tmp 7) rfl (.pointer (some ⟨q4, 0, none⟩)) rfl l71 ?_)
   | (refine wpListIn_loadG rfl 22 (.tmp 7) rfl (.pointer (some ⟨q4, 0, none⟩)) rfl l72 ?_)
   | (refine wpListIn_fieldG rfl 44 (.tmp 16) 0 rfl (.pointer (some ⟨q16, 0, none⟩)) rfl fEdge0 ?_)
   | (refine wpListIn_loadG rfl 25 (.tmp 72) rfl (.pointer (some ⟨q16, 0, none⟩)) rfl lk ?_)
   | (refine wpListIn_loadG rfl 25 (.tmp 89) rfl (.pointer (some ⟨q16, 0, none⟩)) rfl lk2 ?_)
   | (refine wpListIn_loadG rfl 27 (.tmp 6) rfl (.pointer (some ⟨q3, 0, none⟩)) rfl lh ?_)
   | (refine wpListIn_buildG rfl 27 _ rfl #[(0, .agg (hC ed.key)), (2, .int .i64 a), (3, .int .i64 x)] (by simp only [List.map_toArray, List.map_cons, List.map_nil]; rfl) (bld _) ?_)
   | (refine wpListIn_idxG rfl 22 _ _ rfl (.slice (some ⟨gst, 0, none⟩) n n) (.int .i64 (i : Int)) rfl rfl (ix _) ?_)
   | (refine wpListIn_storeG rfl 27 (.tmp 77) (.tmp 76) rfl (.pointer (some ⟨gst, 0 + i * 66, none⟩)) (.agg (hopC ⟨ed.key, zh, a, x⟩)) rfl rfl s1 ?_)
   | (refine wpListIn_storeG rfl 27 (.tmp 86) (.tmp 85) rfl (.pointer (some ⟨gst, 0 + i * 66, none⟩)) (.agg (hopC (frst x S l j))) rfl rfl s2 ?_)
   | (refine wpListIn_fieldG rfl 27 (.tmp 91) 0 rfl (.pointer (some ⟨gst, 0 + i * 66, none⟩)) rfl fHop0 ?_)
   | (refine wpListIn_storeG rfl 25 (.tmp 92) (.tmp 90) rfl (.pointer (some ⟨gst, 0 + i * 66, none⟩)) (.agg (hC ed.key)) rfl rfl s3 ?_)
   | (refine wpListIn_loadG rfl 40 (.tmp 5) rfl (.pointer (some ⟨q2, 0, none⟩)) rfl l51 ?_)
   | fail)
  have hCI : CI w q0 q1 q2 q3 q4 q5 g14 gst q16 a x (some ⟨bA, oA, none⟩) n c S (some ⟨bB, oB, none⟩) c' ed X (hopAt (frst x S l j) ed (S.getD i 0) 0) (stRow i (hopL (stepAt a x S l i)) (stL a x S l j)) X3 := ⟨R3.out, T3.out, KK3.out⟩
  refine wpIn_region_chain (wide_round l0) [.pointer (some ⟨q16, 0, none⟩), .agg (hC ed.key), .pointer (some ⟨q16, 32, none⟩), .agg (hC ed.chan), .slice (some ⟨bB, oB, none⟩) n c', .int .i64 (i : Int), .pointer (some ⟨bB, oB + i, none⟩), .int .i64 (S.getD i 0), .int .i64 x, undef, .pointer (some ⟨q3, 0, none⟩), undef, .pointer (some ⟨q3, 32, none⟩), undef, .pointer (some ⟨q3, 64, none⟩), undef, .pointer (some ⟨q3, 65, none⟩)] [9, 11, 13, 15] (fun m W => CI w q0 q1 q2 q3 q4 q5 g14 gst q16 a x (some ⟨bA, oA, none⟩) n c S (some ⟨bB, oB, none⟩) c' ed X (hopAt (frst x S l j) ed (S.getD i 0) m) (stRow i (hopL (stepAt a x S l i)) (stL a x S l j)) W) (fun m W W' hL h => h.later hL) hCI (by kernel_rfl) (by kernel_rfl) (by kernel_rfl) (by kernel_rfl) (by kernel_rfl) (by kernel_rfl) rfl (by decide) rfl ⟨?_, ?_, ?_, ?_, ?_, ?_, ?_, ?_, ?_, ?_, ?_, ?_, ?_, ?_, ?_, ?_, ?_, trivial⟩ ?_
  ·exact chStep_val rfl (fun ac W m he hA => stepOk_want rfl (op_fieldAddr rfl (he.k 16) fEdge0 rfl))
  ·exact chStep_val rfl (fun ac W m he hA => stepOk_want rfl (op_load rfl (show ac.eval (.tmp 93) = .pointer (some ⟨q16, 0, none⟩) from he.v 0 93) (loadKeyE hew hA.r.r16) rfl))
  ·exact chStep_val rfl (fun ac W m he hA => stepOk_want rfl (op_fieldAddr rfl (he.k 16) fEdge1 rfl))
  ·exact chStep_val rfl (fun ac W m he hA => stepOk_want rfl (op_load rfl (show ac.eval (.tmp 95) = .pointer (some ⟨q16, 32, none⟩) from he.v 2 95) (loadChanE hew hA.r.r16) rfl))
  ·exact chStep_val rfl (fun ac W m he hA => stepOk_want rfl (op_load rfl (he.k 14) (loadNums ((hA.r.k14.cell 0).trans rfl)) rfl))
  ·exact chStep_val rfl (fun ac W m he hA => stepOk_want rfl (op_move rfl (he.k 15)))
  ·exact chStep_val rfl (fun ac W m he hA => stepOk_want rfl (op_idx rfl (show ac.eval (.tmp 97) = .slice (some ⟨bB, oB, none⟩) n c' from he.v 4 97) (show ac.eval (.tmp 98) = .int .i64 (i : Int) from he.v 5 98) (idxInt (by omega) (by omega) W) rfl))
  ·exact chStep_val rfl (fun ac W m he hA => stepOk_want rfl (op_load rfl (show ac.eval (.tmp 99) = .pointer (some ⟨bB, oB + i, none⟩) from he.v 6 99) (ldI64 (hcS W hA.r.nums)) rfl))
  ·exact chStep_val rfl (fun ac W m he hA => stepOk_want rfl (op_load rfl (he.k 4) (ldI64 ((hA.r.pr.r1.cell 0).trans rfl)) rfl))
  ·refine chStep_put (k := 0) rfl (.inl rfl) (fun ac W he hA => ⟨rfl, ?_⟩)
   obtain ⟨W', hs, h1, h2⟩ := storeHop (hopAt_wf hfw hew 0) noHop_wf hA.r.pr.r3
   exact op_storeK rfl (he.k 6) (by kernel_rfl) hs ⟨undef, rfl, hA.put ap h2 h1⟩
  ·exact chStep_val rfl (fun ac W m he hA => stepOk_want rfl (op_fieldAddr rfl (he.k 6) fHop0 rfl))
  ·refine chStep_put (k := 1) rfl (.inr (by kernel_rfl)) (fun ac W he hA => ⟨rfl, ?_⟩)
   have hw1 := hopAt_wf hfw hew (s := S.getD i 0) 1
   obtain ⟨W', hs, h1, h2⟩ := storeHash ed.key hew.1 hA.r.pr.r3 (o := 0) (by rw [hopC_size hw1]; decide)
   rw [hopC_setKey0 hw1 _ hew.1] at h1
   exact op_storeK rfl (show ac.eval (.tmp 102) = .pointer (some ⟨q3, 0, none⟩) from he.v 10 102) (show ac.eval (.tmp 94) = .agg (hC ed.key) from he.v 1 94) hs ⟨undef, rfl, hA.put ap h2 h1⟩
  ·exact chStep_val rfl (fun ac W m he hA => stepOk_want rfl (op_fieldAddr rfl (he.k 6) fHop1 rfl))
  ·refine chStep_put (k := 2) rfl (.inr (by kernel_rfl)) (fun ac W he hA => ⟨rfl, ?_⟩)
   have hw1 := hopAt_wf hfw hew (s := S.getD i 0) 2
   obtain ⟨W', hs, h1, h2⟩ := storeHash ed.chan hew.2 hA.r.pr.r3 (o := 32) (by rw [hopC_size hw1]; decide)
   rw [hopC_setNext hw1 _ hew.2] at h1
   exact op_storeK rfl (show ac.eval (.tmp 103) = .pointer (some ⟨q3, 32, none⟩) from he.v 12 103) (show ac.eval (.tmp 96) = .agg (hC ed.chan) from he.v 3 96) hs ⟨undef, rfl, hA.put ap h2 h1⟩
  ·exact chStep_val rfl (fun ac W m he hA => stepOk_want rfl (op_fieldAddr rfl (he.k 6) fHop2 rfl))
  ·refine chStep_put (k := 3) rfl (.inr (by kernel_rfl)) (fun ac W he hA => ⟨rfl, ?_⟩)
   have hw1 := hopAt_wf hfw hew (s := S.getD i 0) 3
   have hs := storeI64 (o := 64) (S.getD i 0) hA.r.pr.r3 (hopC_amt hw1)
   have h1 := hA.r.pr.r3.set 64 (.int .i64 (S.getD i 0))
   rw [hopC_setAmt hw1] at h1
   exact op_storeK rfl (show ac.eval (.tmp 104) = .pointer (some ⟨q3, 64, none⟩) from he.v 14 104) (show ac.eval (.tmp 100) = .int .i64 (S.getD i 0) from he.v 7 100) hs ⟨undef, rfl, hA.put ap (grown_set W q3 64 _) h1⟩
  ·exact chStep_val rfl (fun ac W m he hA => stepOk_want rfl (op_fieldAddr rfl (he.k 6) fHop3 rfl))
  intro xs W hA4 hxs hk hgt
  have hA4 : CI w q0 q1 q2 q3 q4 q5 g14 gst q16 a x (some ⟨bA, oA, none⟩) n c S (some ⟨bB, oB, none⟩) c' ed X (hopAt (frst x S l j) ed (S.getD i 0) 4) (stRow i (hopL (stepAt a x S l i)) (stL a x S l j)) W := hA4
  have hw4 := hopAt_wf hfw hew (s := S.getD i 0) 4
  have hs := storeI64 (o := 65) x hA4.r.pr.r3 (hopC_exp hw4)
  have h1 := hA4.r.pr.r3.set 65 (.int .i64 x)
  rw [hopC_setExp hw4] at h1
  have hA5 := hA4.put ap (grown_set W q3 65 (.int .i64 x)) h1
  refine last_store rfl rfl ((hgt 16 105 (by decide) (by kernel_rfl)).trans (show xs 16 = .pointer (some ⟨q3, 65, none⟩) from hxs 16 (by decide) rfl)) ((hgt 8 101 (by decide) (by kernel_rfl)).trans (show xs 8 = .int .i64 x from hxs 8 (by decide) rfl)) hs ?_
  clear hxs hk hgt hA4 hs h1 hCI
  simp only [initL, lastL, putL, Nat.reduceAdd, Act.put, List.setIfInBounds_toArray, List.set_cons_succ, List.set_cons_zero]
  generalize W.setCell ⟨q3, 65, none⟩ (.int .i64 x) = W5 at *
  have l5b := loadEdges ((hA5.r.pr.r2.cell 0).trans rfl)
  have HA5 := Lib.hid hA5
  gi_wp2_with (first
   | (refine wpListIn_loadG rfl 40 (.tmp 5) rfl (.pointer (some ⟨q2, 0, none⟩)) rfl l5b ?_)
   | fail)
  have WR0 := wide_round l0
  have hsw : (stepAt a x S l i).wf := by rw [hss]; exact ⟨hew.1, hfw.2⟩
  have hse : (stepAt a x S l i).exp = expAt x l (i + 1) := by rw [hss, hfr]; rfl
  have hsum : (stepAt a x S l i).exp + ed1.delta = expAt x l i := by
   rw [hse, expAt_succ x l i hil1, getD_lt hil1, he1]
  have hge := expAt_ge x l hok i
  have hbA := hA5.r.pr.b
  refine wpIn_region_last WR0 [Pr.eq (.slice (some ⟨gst, 0, none⟩) n n), Pr.eq (.int .i64 (i : Int)), Pr.eq (.pointer (some ⟨gst, 0 + i * 66, none⟩)), Pr.eq (.pointer (some ⟨gst, 0 + i * 66 + 65, none⟩)), Pr.eq (.int .i64 (stepAt a x S l i).exp), Pr.eq (.slice (some ⟨bA, oA, none⟩) n c), Pr.eq (.int .i64 (i : Int)), Pr.eq (.int .i64 ((i + 1 : Nat) : Int)), Pr.eq (.pointer (some ⟨bA, oA + (i + 1) * 67, none⟩)), Pr.eq (.pointer (some ⟨bA, oA + (i + 1) * 67 + 66, none⟩)), Pr.eq (.int .i64 ed1.delta), Pr.eq (.int .i64 ((stepAt a x S l i).exp + ed1.delta)), Pr.eq (.pointer (some ⟨q3, 65, none⟩))] (by kernel_rfl) (by kernel_rfl) (by kernel_rfl) (by kernel_rfl) (by kernel_rfl) (by kernel_rfl) rfl ⟨?_, ?_, ?_, ?_, ?_, ?_, ?_, ?_, ?_, ?_, ?_, ?_, ?_, trivial⟩ ?_
  ·exact fun ac W hL he => stepOk_want rfl (op_load rfl (he.k 7) (loadHops (((hA5.r.pr.r4.later hL).cell 0).trans rfl)) rfl)
  ·exact fun ac W hL he => stepOk_want rfl (op_move rfl (he.k 15))
  ·exact fun ac W hL he => stepOk_want rfl (op_idx rfl (he.g 0 111) (he.g 1 112) (idxHop W (by omega)) rfl)
  ·exact fun ac W hL he => stepOk_want rfl (op_fieldAddr rfl (he.g 2 113) fHop3 rfl)
  ·exact fun ac W hL he => stepOk_want rfl (op_load rfl (he.g 3 114) (ldI64 (stRow_exp hsw (hA5.t.later hL))) rfl)
  ·exact fun ac W hL he => stepOk_want rfl (op_load rfl (he.k 5) (loadEdges (((hA5.r.pr.r2.later hL).cell 0).trans rfl)) rfl)
  ·exact fun ac W hL he => stepOk_want rfl (op_move rfl (he.k 15))
  ·exact fun ac W hL he => stepOk_want rfl (op_binOp rfl (he.g 6 117) rfl (eqg_any rfl) (addInt i (by omega) _ W) rfl)
  ·exact fun ac W hL he => stepOk_want rfl (op_idx rfl (he.g 5 116) (he.g 7 118) (idxEdge W (by omega)) rfl)
  ·exact fun ac W hL he => stepOk_want rfl (op_fieldAddr rfl (he.g 8 119) fEdge3 rfl)
  ·exact fun ac W hL he => stepOk_want rfl (op_load rfl (he.g 9 120) (ldI64 (hcdel W (hbA.trans (hL.below.mono hbA.size)))) rfl)
  ·exact fun ac W hL he => stepOk_want rfl (op_binOp rfl (he.g 4 115) (he.g 10 121) (eqg_any rfl) (add64 (by rw [hsum]; omega) (by rw [hsum]; omega)) rfl)
  ·exact fun ac W hL he => stepOk_want rfl (op_fieldAddr rfl (he.k 6) fHop3 rfl)
  intro xs W hL hxs hk hgt
  have hw5 : ({ hopAt (frst x S l j) ed (S.getD i 0) 4 with exp := x } : Hop).wf := hw4
  have hA5L := hA5.later hL
  have hs := storeI64 (o := 65) ((stepAt a x S l i).exp + ed1.delta) hA5L.r.pr.r3 (hopC_exp hw5)
  have h1 := hA5L.r.pr.r3.set 65 (.int .i64 ((stepAt a x S l i).exp + ed1.delta))
  rw [hopC_setExp hw5] at h1
  have hA6 := hA5L.put ap (grown_set W q3 65 (.int .i64 ((stepAt a x S l i).exp + ed1.delta))) h1
  refine last_store rfl rfl ((hgt 12 123 (by decide) (by kernel_rfl)).trans (show xs 12 = .pointer (some ⟨q3, 65, none⟩) from hxs 12 (by decide))) ((hgt 11 122 (by decide) (by kernel_rfl)).trans (show xs 11 = .int .i64 ((stepAt a x S l i).exp + ed1.delta) from hxs 11 (by decide))) hs ?_
  clear hxs hk hgt hs h1 hA5L hA5 l5b
  simp only [initL, lastL, putL, Nat.reduceAdd, Act.put, List.setIfInBounds_toArray, List.set_cons_succ, List.set_cons_zero]
  rw [hsum] at hA6 ⊢
  generalize W.setCell ⟨q3, 65, none⟩ (.int .i64 (expAt x l i)) = W6 at *
  have hfe : ({ ({ hopAt (frst x S l j) ed (S.getD i 0) 4 with exp := x } : Hop) with exp := expAt x l i } : Hop) = firstAt x S l i := by
   unfold firstAt
   rw [getD_lt hil, he]
   rfl
  rw [hfe] at hA6
  have hwF : (firstAt x S l i).wf := by rw [<- hfe]; exact hw4
  have c65 : W6.cell? ⟨q3, 65, none⟩ = some (.int .i64 (expAt x l i)) := cHop3 hwF hA6.r.pr.r3
  by_cases hov : expAt x l i <= 2147483647
  ·have hle : decide (expAt x l i <= 2147483647) = true := decide_eq_true hov
   gi_wp2_with (first
    | (refine wpListIn_fieldG rfl 27 (.tmp 6) 3 rfl (.pointer (some ⟨q3, 0, none⟩)) rfl fHop3 ?_)
    | fail)
   refine ⟨trivial, (fun h => by cases h), (CallsIn.inRound l0 (callsIn_wide.2 (rmust_ok 150 W6))).mono ?_⟩
   rintro e W9 ⟨h7, rfl⟩
   obtain rfl := h7.symm
   gi_wp2
   exact HQ.out hov _ _ hA6.r hA6.t hA6.k
  ·have hle : decide (expAt x l i <= 2147483647) = false := decide_eq_false hov
   gi_wp2_with (first
    | (refine wpListIn_fieldG rfl 27 (.tmp 6) 3 rfl (.pointer (some ⟨q3, 0, none⟩)) rfl fHop3 ?_)
    | fail)
   refine ⟨trivial, (fun h => by cases h), (CallsIn.inRound l0 (callsIn_wide.2 (rmust_no 150 W6))).mono ?_⟩
   rintro e W9 ⟨h7, rfl⟩
   obtain rfl := h7.symm
   exact HP.out hov _ _ rfl hA6.r hA6.k
end Go.Proofs.YtloiaaolnfimgaaGreat
namespace Go.Proofs.YtloiaaolnfimgaaGreat
open Go.RowKit Rt
theorem st_open {a x : Int} {S : List Int} {l : List Rt.Edge} {n j i : Nat} (hij : i + 1 + j = n) : ((List.replicate (n - j) (hopL noHop)).flatten ++ stL a x S l j).toArray = stRow i (hopL noHop) (stL a x S l j) := by
 unfold stRow
 rw [show n - j = i + 1 by omega, List.replicate_succ', List.flatten_append]
 simp
theorem st_shut {a x : Int} {S : List Int} {l : List Rt.Edge} {n j i : Nat} (hn : l.length = n) (hij : i + 1 + j = n) : stRow i (hopL (stepAt a x S l i)) (stL a x S l j) = ((List.replicate (n - (j + 1)) (hopL noHop)).flatten ++ stL a x S l (j + 1)).toArray := by
 unfold stRow stL
 rw [hn, show n - (j + 1) = i by omega, show n - j = i + 1 by omega, List.range'_succ, List.map_cons, List.flatten_cons, List.append_assoc]
theorem st_all {a x : Int} {S : List Int} {l : List Rt.Edge} {n : Nat} (hn : l.length = n) : ((List.replicate (n - n) (hopL noHop)).flatten ++ stL a x S l n).toArray = (((List.range l.length).map (stepAt a x S l)).map hopL).flatten.toArray := by
 unfold stL
 rw [hn, Nat.sub_self, List.replicate_zero, List.flatten_nil, List.nil_append, List.map_map, <- List.range_eq_range']
 rfl
theorem firstAt_wf {x : Int} {S : List Int} {l : List Rt.Edge} (hw : ∀ e ∈ l, e.wf) {i : Nat} (hi : i < l.length) : (firstAt x S l i).wf := by
 unfold firstAt
 rw [getD_lt hi]
 exact hw _ (List.getElem_mem hi)
theorem stepAt_wf {a x : Int} {S : List Int} {l : List Rt.Edge} (hw : ∀ e ∈ l, e.wf) {i : Nat} (hi : i < l.length) : (stepAt a x S l i).wf := by
 have h0 := hw _ (List.getElem_mem hi)
 unfold stepAt
 rw [getD_lt hi]
 split
 ·rename_i h
  exact ⟨h0.1, (firstAt_wf (x := x) (S := S) hw h).2⟩
 ·exact ⟨h0.1, zh_len⟩
theorem bAt_wf {l : List Rt.Edge} (hw : ∀ e ∈ l, e.wf) (k : Nat) : (bAt l k).2.wf := by
 unfold bAt
 simp only
 by_cases h : l.length - 1 - k < l.length
 ·rw [getD_lt h]; exact hw _ (List.getElem_mem h)
 ·have : l = [] := List.eq_nil_of_length_eq_zero (by omega)
  subst this
  exact ⟨zh_len, zh_len⟩
theorem KeepsFrom.of_later {B : Nat} {W W' : World} (h : Later W W') : KeepsFrom B W W' := ⟨h.size, fun k o _ hk _ => (Below.block h k (Array.getElem?_eq_some_iff.1 hk).1).trans hk⟩
theorem KeepB.from_ {D : Nat -> Prop} {B : Nat} {W W' : World} (h : KeepB D W W') (hD : ∀ b, D b -> b < B) : KeepsFrom B W W' := ⟨h.size, fun k o hB hk _ => (h.block k (Array.getElem?_eq_some_iff.1 hk).1 (fun hd => by have := hD k hd; omega)).trans hk⟩
theorem KeepB.mono {D E : Nat -> Prop} {W W' : World} (h : KeepB D W W') (hD : ∀ b, D b -> E b) : KeepB E W W' := ⟨h.size, fun b hb he => h.block b hb (fun hd => he (hD b hd))⟩
section
variable {w W W' : World} {q0 q1 q2 q3 q4 q5 : Nat} {a x : Int} {A : Option Addr} {n c : Nat} {h h' : Hop} {v : Value} {y y' : Int}
theorem PR.in3 (p : PR w q0 q1 q2 q3 q4 q5 a x A n c h v y W) (hg : W.grownBy W' (some q3)) (hr : Row W' q3 27 (hopC h')) (h3 : w.heap.size <= q3) (hne : q0 ≠ q3 /\ q1 ≠ q3) : PR w q0 q1 q2 q3 q4 q5 a x A n c h' v y W' :=
 have f : ∀ {g : Nat}, g ≠ q3 -> some g ≠ some q3 := fun hn e => hn (Option.some.inj e)
 ⟨p.r0.grown hg (f hne.1), p.r1.grown hg (f hne.2), p.r2.grown hg (f (ne_rows p.r2 p.r3 (by decide))), hr, p.r4.grown hg (f (ne_rows p.r4 p.r3 (by decide))), p.r5.grown hg (f (ne_rows p.r5 p.r3 (by decide))), Below.grown p.b hg p.b.size (fun j e => by cases e; exact h3)⟩
theorem PR.set4 (p : PR w q0 q1 q2 q3 q4 q5 a x A n c h v y W) (h4 : w.heap.size <= q4) (v' : Value) : PR w q0 q1 q2 q3 q4 q5 a x A n c h v' y (W.setCell ⟨q4, 0, none⟩ v') :=
 ⟨p.r0.far (p := ⟨q4, 0, none⟩) (ne_rows p.r0 p.r4 (by decide)) _, p.r1.far (p := ⟨q4, 0, none⟩) (ne_rows p.r1 p.r4 (by decide)) _, p.r2.far (p := ⟨q4, 0, none⟩) (ne_rows p.r2 p.r4 (by decide)) _, p.r3.far (p := ⟨q4, 0, none⟩) (ne_rows p.r3 p.r4 (by decide)) _, p.r4.set 0 _, p.r5.far (p := ⟨q4, 0, none⟩) (ne_rows p.r5 p.r4 (by decide)) _, p.b.setCell (p := ⟨q4, 0, none⟩) h4 _⟩
theorem PR.set5 (p : PR w q0 q1 q2 q3 q4 q5 a x A n c h v y W) (h5 : w.heap.size <= q5) (y' : Int) : PR w q0 q1 q2 q3 q4 q5 a x A n c h v y' (W.setCell ⟨q5, 0, none⟩ (.int .i64 y')) :=
 ⟨p.r0.far (p := ⟨q5, 0, none⟩) (ne_rows p.r0 p.r5 (by decide)) _, p.r1.far (p := ⟨q5, 0, none⟩) (ne_rows p.r1 p.r5 (by decide)) _, p.r2.far (p := ⟨q5, 0, none⟩) (ne_rows p.r2 p.r5 (by decide)) _, p.r3.far (p := ⟨q5, 0, none⟩) (ne_rows p.r3 p.r5 (by decide)) _, p.r4.far (p := ⟨q5, 0, none⟩) (ne_rows p.r4 p.r5 (by decide)) _, p.r5.set 0 _, p.b.setCell (p := ⟨q5, 0, none⟩) h5 _⟩
end
structure PF (w : World) (q0 q1 q2 q3 q4 q5 gst D : Nat) (a x : Int) (A : Option Addr) (n c : Nat) (h : Hop) (ST : Array Value) (W : World) : Prop where
 pr : PR w q0 q1 q2 q3 q4 q5 a x A n c h (.slice (some ⟨gst, 0, none⟩) n n) 0 W
 st : Row W gst 27 ST
 d : W.heap[D]? = some (.deferred (some []))
theorem PF.later {w W W' : World} {q0 q1 q2 q3 q4 q5 gst D : Nat} {a x : Int} {A : Option Addr} {n c : Nat} {h : Hop} {ST : Array Value} (p : PF w q0 q1 q2 q3 q4 q5 gst D a x A n c h ST W) (hL : Later W W') : PF w q0 q1 q2 q3 q4 q5 gst D a x A n c h ST W' :=
 ⟨p.pr.later hL, p.st.later hL, (Below.block hL D (Array.getElem?_eq_some_iff.1 p.d).1).trans p.d⟩
theorem storeHopsV {W : World} {g : Nat} {v u : Value} {S : Option Addr} {m c : Nat} (e : v = .slice S m c) (hr : Row W g 22 #[u]) : (Instr.storeAt 22 (.pointer (some ⟨g, 0, none⟩)) v).run Tryz.prog W = .ok () (W.setCell ⟨g, 0, none⟩ v) := by
 subst e
 have h0 : W.cell? ⟨g, 0, none⟩ = some u := (hr.cell 0).trans rfl
 have h1 := hr.frozen 0
 go_simp
theorem plan_main (a x : Int) (A : Option Addr) (n c : Nat) (l : List Rt.Edge) (w : World) (hl : ∀ e ∈ l, e.wf) (hn : l.length = n) (hnm : n <= 1000000) (hnc : n <= c) (hA : Recs 67 w A (l.map edgeL)) (hno : okPlan a x l = true -> (routeS a (feesOf l.tail)).2 = 0 -> expAt x l 0 <= 2147483647) :
  CallsIn Fence.wide 12 Tryz.prog 14 #[.int .i64 a, .int .i64 x, .slice A n c] w fun e w' => (∃ v, e = .returned (.tuple #[.agg (hopC (plan a x l).1), v, .int .i64 (plan a x l).2.2]) /\ ∃ B c', v = .slice B (plan a x l).2.1.length c' /\ Recs 66 w' B ((plan a x l).2.1.map hopL)) /\ Below w.heap.size w w' := by
 refine callsIn_wide.2 (Calls.post fun Φ HΦ => (callsIn_wide (n := 12)).1 ?_)
 have HL := Lib.hid hl
 have HA := Lib.hid hA
 have HN := Lib.hid hn
 have HNO0 := Lib.hid hno
 have hmf : ∀ (fn : Fn) (first cap : Array Value) (w : World), (Instr.makeFunc fn first cap).run Tryz.prog w = .ok (.func fn first cap) w := fun _ _ _ _ => rfl
 refine callsIn_of_wp_marks Tryz.func14 rfl trivial ?_ rfl
 simp only [Tryz.ntmps14, List.size_toArray, List.length_cons, List.length_nil, Nat.reduceAdd, Nat.reduceSub, Array.replicate_succ, Array.replicate_zero, List.push_toArray, List.append_toArray, List.nil_append, List.cons_append]
 refine wpIn_wide.2 ?_
 have g0 := Row.new w 2 #[.int .i64 a]
 have L1 := below_new w (.cells #[.int .i64 a] 2)
 generalize e1 : w.alloc (.cells #[.int .i64 a] 2) = w1 at g0 L1
 have g1 := Row.new w1 2 #[.int .i64 x]
 have L2 := below_new w1 (.cells #[.int .i64 x] 2)
 generalize e2 : w1.alloc (.cells #[.int .i64 x] 2) = w2 at g1 L2
 have g2 := Row.new w2 40 #[.slice A n c]
 have L3 := below_new w2 (.cells #[.slice A n c] 40)
 generalize e3 : w2.alloc (.cells #[.slice A n c] 40) = w3 at g2 L3
 have g3 := Row.new w3 27 (hopC noHop)
 have L4 := below_new w3 (.cells (hopC noHop) 27)
 generalize e4 : w3.alloc (.cells (hopC noHop) 27) = w4 at g3 L4
 have g4 := Row.new w4 22 #[.slice none 0 0]
 have L5 := below_new w4 (.cells #[.slice none 0 0] 22)
 generalize e5 : w4.alloc (.cells #[.slice none 0 0] 22) = w5 at g4 L5
 have g5 := Row.new w5 28 #[.int .i64 0]
 have L6 := below_new w5 (.cells #[.int .i64 0] 28)
 generalize e6 : w5.alloc (.cells #[.int .i64 0] 28) = w6 at g5 L6
 have s1 : w1.heap.size = w.heap.size + 1 := by rw [<- e1]; simp
 have s2 : w2.heap.size = w.heap.size + 2 := by rw [<- e2]; simp [s1]
 have s3 : w3.heap.size = w.heap.size + 3 := by rw [<- e3]; simp [s2]
 have s4 : w4.heap.size = w.heap.size + 4 := by rw [<- e4]; simp [s3]
 have s5 : w5.heap.size = w.heap.size + 5 := by rw [<- e5]; simp [s4]
 rw [s1] at g1; rw [s2] at g2; rw [s3] at g3; rw [s4] at g4; rw [s5] at g5
 go_upto_region 1 with (first
  | (with_reducible refine wpList_alloc rfl 27 rfl (allocHop _) ?_)
  | (with_reducible refine wpList_alloc rfl 22 rfl (allocHops _) ?_)
  | fail)
 obtain ⟨q0, hq0⟩ : ∃ q, q = w.heap.size := ⟨_, rfl⟩
 obtain ⟨q1, hq1⟩ : ∃ q, q = w.heap.size + 1 := ⟨_, rfl⟩
 obtain ⟨q2, hq2⟩ : ∃ q, q = w.heap.size + 2 := ⟨_, rfl⟩
 obtain ⟨q3, hq3⟩ : ∃ q, q = w.heap.size + 3 := ⟨_, rfl⟩
 obtain ⟨q4, hq4⟩ : ∃ q, q = w.heap.size + 4 := ⟨_, rfl⟩
 obtain ⟨q5, hq5⟩ : ∃ q, q = w.heap.size + 5 := ⟨_, rfl⟩
 have hP : PR w q0 q1 q2 q3 q4 q5 a x A n c noHop (.slice none 0 0) 0 w6 := by
  subst hq0 hq1 hq2 hq3 hq4 hq5
  exact ⟨((((g0.later L2).later L3).later L4).later L5).later L6, (((g1.later L3).later L4).later L5).later L6, ((g2.later L4).later L5).later L6, (g3.later L5).later L6, g4.later L6, g5, ((((Later.step L1 L2).step L3).step L4).step L5).step L6⟩
 rw [<- hq5, <- hq4, <- hq3, <- hq2, <- hq1, <- hq0]
 replace hq3 : w.heap.size <= q3 := by omega
 replace hq4 : w.heap.size <= q4 := by omega
 replace hq5 : w.heap.size <= q5 := by omega
 have hqw : q0 < w6.heap.size /\ q1 < w6.heap.size /\ q2 < w6.heap.size /\ q3 < w6.heap.size /\ q4 < w6.heap.size /\ q5 < w6.heap.size := ⟨hP.r0.lt, hP.r1.lt, hP.r2.lt, hP.r3.lt, hP.r4.lt, hP.r5.lt⟩
 have hb0 := hP.b
 have hA6 := hA.below hb0
 clear g0 g1 g2 g3 g4 g5 L1 L2 L3 L4 L5 L6 e1 e2 e3 e4 e5 e6 s1 s2 s3 s4 s5 hq0 hq1 hq2 hl hn hno hA
 go_upto_region 2 with fail
 clear hmf
 have c0 : w6.cell? ⟨q0, 0, none⟩ = some (.int .i64 a) := (hP.r0.cell 0).trans rfl
 have c1 : w6.cell? ⟨q1, 0, none⟩ = some (.int .i64 x) := (hP.r1.cell 0).trans rfl
 have c2 := loadEdges ((hP.r2.cell 0).trans rfl)
 have hin := fun W => rin_int (n : Int) 1 6 W
 have hpd := fun W => rpaid_any a x W
 have hwF := noHop_wf
 obtain ⟨b1, hb1⟩ : ∃ b, (decide (1 <= (n : Int)) && decide ((n : Int) <= 6)) = b := ⟨_, rfl⟩
 obtain ⟨b2, hb2⟩ : ∃ b, paid a x = b := ⟨_, rfl⟩
 rw [hb1] at hin
 rw [hb2] at hpd
 have HB1 := Lib.hid hb1
 have HB2 := Lib.hid hb2
 clear hb1 hb2
 have hbad : b1 = false \/ b2 = false -> plan a x l = (noHop, [], 2) := fun h => by
  have : okPlan a x l = false := by
   unfold okPlan
   rw [HB2.out, HN.out]
   rcases h with h | h
   ·have h1 := HB1.out
    rw [h] at h1
    by_cases h2 : 1 <= n
    ·have h3 : ¬ n <= 6 := fun h3 => by
      rw [decide_eq_true (by omega), decide_eq_true (by omega)] at h1
      cases h1
     rw [decide_eq_false h3]; simp
    ·rw [decide_eq_false h2]; simp
   ·rw [h]; simp
  unfold plan
  rw [this]
  rfl
 have HBAD := Lib.hid hbad
 clear hbad
 cases b1 with
 | false =>
  have HNO := HBAD.out (.inl rfl)
  go_wp2_with (first
   | (guard_target =~ wpList _ _ _ (_ :: _) _ _; refine wpList_load rfl 40 (.tmp 5) rfl (.pointer (some ⟨q2, 0, none⟩)) rfl c2 ?_)
   | (go_at_call 24; refine (hin _).mono ?_; clear hin; rintro e w7 ⟨rfl, h7⟩; obtain rfl := h7.symm)
   | (go_at_call 32; refine (rmust_no _ _).mono ?_; rintro e w7 ⟨h7, rfl⟩; obtain rfl := h7.symm)
   | fail)
  have hF := hP
  refine leavesM_cons (f := 30) (args := #[.pointer (some ⟨q5, 0, none⟩), .func (.func 45) #[] #[.pointer (some ⟨q3, 0, none⟩), .pointer (some ⟨q4, 0, none⟩)]]) (by simp) rfl (by simp [go_sem]) ?_; refine (plan_caught _ q3 q4 q5 _ hwF _ _ _ w _ hF.r3 hF.r4 hF.r5 hF.b hq3 hq4 hq5).mono ?_; rintro e u' w'' ⟨rfl, rfl, kQ, cV, cE, hbG⟩; show ∃ v, _ /\ _; exact ⟨_, results_ccc rfl _ _ q3 q4 q5 27 (hopC noHop) _ (.slice none 0 0) _ rfl rfl rfl kQ Tryz.underlying27 rfl (by rw [hopC_size noHop_wf]; exact infoHop) (loadHopsVar cV) (loadErr cE), HΦ.out _ _ ⟨⟨.slice none 0 0, by rw [HNO], none, 0, by rw [HNO]; rfl, by rw [HNO]; exact Recs.nil _ _ _⟩, hbG⟩⟩
 | true =>
  cases b2 with
  | false =>
   have HNO := HBAD.out (.inr rfl)
   go_wp2_with (first
    | (guard_target =~ wpList _ _ _ (_ :: _) _ _; refine wpList_load rfl 40 (.tmp 5) rfl (.pointer (some ⟨q2, 0, none⟩)) rfl c2 ?_)
    | (go_at_call 24; refine (hin _).mono ?_; clear hin; rintro e w7 ⟨rfl, h7⟩; obtain rfl := h7.symm)
    | (go_at_call 22; refine (hpd _).mono ?_; clear hpd; rintro e w7 ⟨rfl, h7⟩; obtain rfl := h7.symm)
    | (go_at_call 32; refine (rmust_no _ _).mono ?_; rintro e w7 ⟨h7, rfl⟩; obtain rfl := h7.symm)
    | fail)
   have hF := hP
   refine leavesM_cons (f := 30) (args := #[.pointer (some ⟨q5, 0, none⟩), .func (.func 45) #[] #[.pointer (some ⟨q3, 0, none⟩), .pointer (some ⟨q4, 0, none⟩)]]) (by simp) rfl (by simp [go_sem]) ?_; refine (plan_caught _ q3 q4 q5 _ hwF _ _ _ w _ hF.r3 hF.r4 hF.r5 hF.b hq3 hq4 hq5).mono ?_; rintro e u' w'' ⟨rfl, rfl, kQ, cV, cE, hbG⟩; show ∃ v, _ /\ _; exact ⟨_, results_ccc rfl _ _ q3 q4 q5 27 (hopC noHop) _ (.slice none 0 0) _ rfl rfl rfl kQ Tryz.underlying27 rfl (by rw [hopC_size noHop_wf]; exact infoHop) (loadHopsVar cV) (loadErr cE), HΦ.out _ _ ⟨⟨.slice none 0 0, by rw [HNO], none, 0, by rw [HNO]; rfl, by rw [HNO]; exact Recs.nil _ _ _⟩, hbG⟩⟩
  | true =>
   have hn16 : 1 <= n /\ n <= 6 := by
    have := HB1.out
    simp at this
    omega
   go_upto_region 4 with (first
    | (guard_target =~ wpList _ _ _ (_ :: _) _ _; refine wpList_load rfl 40 (.tmp 5) rfl (.pointer (some ⟨q2, 0, none⟩)) rfl c2 ?_)
    | (go_at_call 24; refine (hin _).mono ?_; clear hin; rintro e w7 ⟨rfl, h7⟩; obtain rfl := h7.symm)
    | (go_at_call 22; refine (hpd _).mono ?_; clear hpd; rintro e w7 ⟨rfl, h7⟩; obtain rfl := h7.symm)
    | (go_at_call 32; refine (rmust_ok _ _).mono ?_; rintro e w7 ⟨h7, rfl⟩; obtain rfl := h7.symm)
    | fail)
   clear c0 c1 HB1 HBAD
   go_wp2_with (first
    | (guard_target =~ wpList _ _ _ (_ :: _) _ _; refine wpList_load rfl 40 (.tmp 5) rfl (.pointer (some ⟨q2, 0, none⟩)) rfl c2 ?_)
    | fail)
   go_loopw [9, 29] (fun v t wr => ∃ k : Nat, k <= n /\ t = .int .i64 k /\ (∀ e ∈ l.take k, okE e = true) /\ OwnG 42 2 wr w6.heap.size v ((feesOf (l.take k)).map feeL) /\ PR w q0 q1 q2 q3 q4 q5 a x A n c noHop (.slice none 0 0) 0 wr /\ Later w6 wr) (fun _ t _ => n - (intOf t).toNat)
   case atStart => exact ⟨0, by omega, rfl, by simp, OwnG.nil _ _ _ _, hP, Later.refl _⟩
   case round =>
    clear hP c2
    obtain ⟨k, hk, rfl, hoks, hown, hP, hL⟩ := hrel
    obtain ⟨Fb, cF, rfl, -, -, -⟩ := hown.slice
    have hfk : ((feesOf (l.take k)).map feeL).length = k := by rw [List.length_map, feesOf, List.length_map, List.length_take, HN.out]; omega
    rw [hfk] at hown ⊢
    by_cases hlt : k < n
    ·have hd : decide ((k : Int) < (n : Int)) = true := decide_eq_true (by omega)
     have hd' : decide (k < n) = true := decide_eq_true hlt
     have hkl : k < l.length := by rw [HN.out]; exact hlt
     obtain ⟨b, o, rfl, hcell⟩ := (hA6.later hL).at_ (k := k) (by simpa using hkl)
     rw [List.getElem_map] at hcell
     have hew := HL.out _ (List.getElem_mem hkl)
     obtain ⟨ed, hed⟩ : ∃ e, l[k] = e := ⟨_, rfl⟩
     rw [hed] at hcell hew
     have hld := loadEdgeM hew hcell
     have hix := fun W => idxEdge (b := b) (o := o) (n := n) (c := c) (i := k) W hlt
     obtain ⟨w8, hst, k8, hL8⟩ := newEdge wr hew
     have hP8 := hP.later hL8
     have hown8 := hown.later hL8
     have hLL8 : Later w6 w8 := hL.step hL8
     have cd : w8.cell? ⟨wr.heap.size, 66, none⟩ = some (.int .i64 ed.delta) := (k8.cell 66).trans (edgeC_num hew).2.2
     have hHED := Lib.hid hed
     have hHOK := Lib.hid hoks
     clear hcell hed hoks hown
     go_upto_region 7 with (first
      | (guard_target =~ wpList _ _ _ (_ :: _) _ _; refine wpList_idx rfl 40 _ _ rfl (.slice (some ⟨b, o, none⟩) n c) (.int .i64 (k : Int)) rfl rfl (hix _) ?_)
      | (guard_target =~ wpList _ _ _ (_ :: _) _ _; refine wpList_load rfl 44 (.tmp 31) rfl (.pointer (some ⟨b, o + k * 67, none⟩)) rfl hld ?_)
      | (with_reducible refine wpList_alloc rfl 44 rfl (allocEdge _) ?_)
      | (guard_target =~ wpList _ _ _ (_ :: _) _ _; refine wpList_store rfl 44 (.tmp 11) (.tmp 32) rfl (.pointer (some ⟨wr.heap.size, 0, none⟩)) (.agg (edgeC ed)) rfl rfl hst ?_)
      | fail)
     obtain ⟨g, hg⟩ : ∃ g, g = wr.heap.size := ⟨_, rfl⟩
     rw [<- hg] at k8 cd ⊢
     have hgw : w6.heap.size <= g := by have := hL.size; omega
     have hg8 : g < w8.heap.size := k8.lt
     clear hst hix hld hg
     have hind := fun W => rin_i64 ed.delta 0 1000 W
     have htk := fun W => take_fee ed.base ed.rate 0 W
     rw [takeS_zero] at htk
     have hokE : okE ed = ((decide (0 <= ed.delta) && decide (ed.delta <= 1000)) && rightF (ed.base, ed.rate)) := rfl
     have hnot : okE ed = false -> plan a x l = (noHop, [], 2) := fun h => by
      have : okPlan a x l = false := by
       unfold okPlan
       have : l.all okE = false := by
        rw [List.all_eq_false]
        exact ⟨ed, by rw [<- hHED.out]; exact List.getElem_mem hkl, by rw [h]; simp⟩
       rw [this]; simp
      unfold plan
      rw [this]
      rfl
     have HNOT := Lib.hid hnot
     clear hnot
     obtain ⟨d1, hd1⟩ : ∃ b, (decide (0 <= ed.delta) && decide (ed.delta <= 1000)) = b := ⟨_, rfl⟩
     obtain ⟨d2, hd2⟩ : ∃ b, rightF (ed.base, ed.rate) = b := ⟨_, rfl⟩
     rw [hd1] at hind hokE
     rw [hd2] at htk hokE
     clear hd1 hd2
     cases d1 with
     | false =>
      have HNO := HNOT.out hokE
      go_wp2_with (first
       | (go_at_call 46; refine (hind _).mono ?_; clear hind; rintro e w7 ⟨rfl, h7⟩; obtain rfl := h7.symm)
       | (go_at_call 32; refine (rmust_no _ _).mono ?_; rintro e w7 ⟨h7, rfl⟩; obtain rfl := h7.symm)
       | fail)
      have hF := hP8
      refine leavesM_cons (f := 30) (args := #[.pointer (some ⟨q5, 0, none⟩), .func (.func 45) #[] #[.pointer (some ⟨q3, 0, none⟩), .pointer (some ⟨q4, 0, none⟩)]]) (by simp) rfl (by simp [go_sem]) ?_; refine (plan_caught _ q3 q4 q5 _ hwF _ _ _ w _ hF.r3 hF.r4 hF.r5 hF.b hq3 hq4 hq5).mono ?_; rintro e u' w'' ⟨rfl, rfl, kQ, cV, cE, hbG⟩; show ∃ v, _ /\ _; exact ⟨_, results_ccc rfl _ _ q3 q4 q5 27 (hopC noHop) _ (.slice none 0 0) _ rfl rfl rfl kQ Tryz.underlying27 rfl (by rw [hopC_size noHop_wf]; exact infoHop) (loadHopsVar cV) (loadErr cE), HΦ.out _ _ ⟨⟨.slice none 0 0, by rw [HNO], none, 0, by rw [HNO]; rfl, by rw [HNO]; exact Recs.nil _ _ _⟩, hbG⟩⟩
     | true =>
      have hlf := run_load_fee (w := w8) (b := g) (o := 64) ((k8.cell 64).trans (edgeC_num hew).1) ((k8.cell 65).trans (edgeC_num hew).2.1)
      go_upto_region 8 with (first
       | (go_at_call 46; refine (hind _).mono ?_; clear hind; rintro e w7 ⟨rfl, h7⟩; obtain rfl := h7.symm)
       | (go_at_call 32; refine (rmust_ok _ _).mono ?_; rintro e w7 ⟨h7, rfl⟩; obtain rfl := h7.symm)
       | fail)
      have hLA := below_new w8 (.cells #[.int .i64 ed.base, .int .i64 ed.rate] 42)
      have hownA := hown8.later hLA
      have hPA := hP8.later hLA
      have kA := k8.later hLA
      have hLLA : Later w6 (w8.alloc (.cells #[.int .i64 ed.base, .int .i64 ed.rate] 42)) := hLL8.step hLA
      have hrec : Recs 2 (w8.alloc (.cells #[.int .i64 ed.base, .int .i64 ed.rate] 42)) (some ⟨w8.heap.size, 0, none⟩) [feeL (ed.base, ed.rate)] :=
       Recs.row (Row.new w8 42 _) (fun l hl => by rw [List.mem_singleton.1 hl]; exact (feeL_ok _).1) (fun j v hv => by simpa [feeL] using hv)
      have hbf := buildFee1 ed.base ed.rate w8
      have hszA : w6.heap.size <= (w8.alloc (.cells #[.int .i64 ed.base, .int .i64 ed.rate] 42)).heap.size := hLLA.size
      have hfl : ((feesOf (l.take k)).map feeL).length + 1 <= 1000000000 := by
       rw [hfk]
       omega
      clear hown8 hP8 k8 hLA hLL8
      go_upto_region 9 with (first
       | (guard_target =~ wpList _ _ _ (_ :: _) _ _; refine wpList_load rfl 42 (.tmp 38) rfl (.pointer (some ⟨g, 64, none⟩)) rfl hlf ?_)
       | (refine wpList_buildSl rfl 97 1 _ rfl #[(0, feeV ed.base ed.rate)] rfl hbf ?_)
       | (guard_target =~ wpList _ _ _ (_ :: _) _ _; refine wpList_append_g Tryz.underlying97 infoFeeF rfl (by decide) (by decide) rfl (.tmp 37) (.tmp 40) rfl w6.heap.size _ _ rfl hownA (some ⟨w8.heap.size, 0, none⟩) 1 1 [feeL (ed.base, ed.rate)] (fun l hl => by rw [List.mem_singleton.1 hl]; exact feeL_ok _) rfl rfl hrec (by simp) hfl hszA fun v9 w9 hown9 hg9 _ => ?_)
       | fail)
      have hne9 : ∀ j, (Value.slice Fb k cF).ownBlock = some j -> w6.heap.size <= j /\ j ≠ g := fun j e => by
       obtain ⟨cs, hcs⟩ := hownA.type e
       exact ⟨(hownA.at_ j e).1, (ne_rows hcs kA (by decide))⟩
      have hP9 := hPA.grown hg9 (fun j e => by have := (hne9 j e).1; have := hP.b.size; have := hb0.size; omega)
      have hLL9 : Later w6 w9 := Below.grown hLLA hg9 hszA (fun j e => (hne9 j e).1)
      have k9 := kA.grown hg9 (fun e => (hne9 g e.symm).2 rfl)
      have hlf9 := run_load_fee (w := w9) (b := g) (o := 64) ((k9.cell 64).trans (edgeC_num hew).1) ((k9.cell 65).trans (edgeC_num hew).2.1)
      clear hownA hPA kA hLLA hrec hbf hszA hlf hg9 hne9 hP
      cases d2 with
      | false =>
       have HNO := HNOT.out hokE
       go_wp2_with (first
        | (guard_target =~ wpList _ _ _ (_ :: _) _ _; refine wpList_load rfl 42 (.tmp 43) rfl (.pointer (some ⟨g, 64, none⟩)) rfl hlf9 ?_)
        | (go_at_call 47; refine (htk _).mono ?_; clear htk; rintro e w10 ⟨rfl, hL10⟩)
        | (go_at_call 32; refine (rmust_no _ _).mono ?_; rintro e w7 ⟨h7, rfl⟩; obtain rfl := h7.symm)
        | fail)
       have hF := hP9.later hL10
       refine leavesM_cons (f := 30) (args := #[.pointer (some ⟨q5, 0, none⟩), .func (.func 45) #[] #[.pointer (some ⟨q3, 0, none⟩), .pointer (some ⟨q4, 0, none⟩)]]) (by simp) rfl (by simp [go_sem]) ?_; refine (plan_caught _ q3 q4 q5 _ hwF _ _ _ w _ hF.r3 hF.r4 hF.r5 hF.b hq3 hq4 hq5).mono ?_; rintro e u' w'' ⟨rfl, rfl, kQ, cV, cE, hbG⟩; show ∃ v, _ /\ _; exact ⟨_, results_ccc rfl _ _ q3 q4 q5 27 (hopC noHop) _ (.slice none 0 0) _ rfl rfl rfl kQ Tryz.underlying27 rfl (by rw [hopC_size noHop_wf]; exact infoHop) (loadHopsVar cV) (loadErr cE), HΦ.out _ _ ⟨⟨.slice none 0 0, by rw [HNO], none, 0, by rw [HNO]; rfl, by rw [HNO]; exact Recs.nil _ _ _⟩, hbG⟩⟩
      | true =>
       go_wp2_with (first
        | (guard_target =~ wpList _ _ _ (_ :: _) _ _; refine wpList_load rfl 42 (.tmp 43) rfl (.pointer (some ⟨g, 64, none⟩)) rfl hlf9 ?_)
        | (go_at_call 47; refine (htk _).mono ?_; clear htk; rintro e w10 ⟨rfl, hL10⟩)
        | (go_at_call 32; refine (rmust_ok _ _).mono ?_; rintro e w7 ⟨h7, rfl⟩; obtain rfl := h7.symm)
        | fail)
       go_roundw
       case rel =>
        refine ⟨k + 1, by omega, by go_num, ?_, ?_, hP9.later hL10, hLL9.step hL10⟩
        ·intro e he
         rw [List.take_add_one, List.getElem?_eq_getElem hkl, hHED.out] at he
         rcases List.mem_append.1 he with h | h
         ·exact hHOK.out e h
         ·simp at h
          subst h
          exact hokE
        ·rw [show (feesOf (l.take (k + 1))).map feeL = (feesOf (l.take k)).map feeL ++ [feeL (ed.base, ed.rate)] by
          rw [List.take_add_one, List.getElem?_eq_getElem hkl, hHED.out]
          simp [feesOf]]
         exact hown9.later hL10
       case measure => simp [intOf]; omega
    ·obtain rfl : k = n := by omega
     have hd : decide ((k : Int) < (k : Int)) = false := decide_eq_false (by omega)
     have hd' : decide (k < k) = false := decide_eq_false (by omega)
     have hall : l.all okE = true := by
      rw [List.all_eq_true]
      intro e he
      exact hoks e (by rw [List.take_of_length_le (by rw [HN.out]; exact Nat.le_refl _)]; exact he)
     have hok : okPlan a x l = true := by
      unfold okPlan
      rw [HB2.out, hall, HN.out, decide_eq_true hn16.1, decide_eq_true hn16.2]
      rfl
     obtain ⟨_, _, eF, hcF, _, hrF⟩ := hown.slice
     rw [hfk] at eF hcF
     injection eF with eF1 _ eF3
     subst eF1 eF3
     obtain ⟨D, hsl, hDr⟩ := slice_fees (A := Fb) (n := k) (ca := cF) hn16.1 hcF
     have hrF2 : RdV wr D (feesC (feesOf l).tail) := by
      refine hDr wr (feesOf l) (by rw [feesOf, List.length_map, HN.out]) ?_
      rw [List.take_of_length_le (by rw [HN.out]; exact Nat.le_refl _)] at hrF
      rw [feesC_eq]
      exact Recs.rdv (by decide) hrF (fun l hl => by obtain ⟨f, _, rfl⟩ := List.mem_map.1 hl; exact (feeL_ok f).1)
     have hft : (feesOf l).tail = feesOf l.tail := by unfold feesOf; rw [List.map_tail]
     rw [hft] at hrF2
     have hroute := fun W (h : Later wr W) => route_fresh a D (k - 1) (cF - 1) (feesOf l.tail) W (by rw [feesOf, List.length_map, List.length_tail, HN.out]) (by omega) (hrF2.later h)
     obtain ⟨R, hR⟩ : ∃ R, routeS a (feesOf l.tail) = R := ⟨_, rfl⟩
     obtain ⟨S, er⟩ := R
     rw [hR] at hroute
     obtain ⟨m, hm⟩ : ∃ m, S.length = m := ⟨_, rfl⟩
     simp only [hm] at hroute
     have c0L : ∀ W, Later wr W -> W.cell? ⟨q0, 0, none⟩ = some (.int .i64 a) := fun W h => ((hP.r0.later h).cell 0).trans rfl
     have HRT := Lib.hid hR
     have HM := Lib.hid hm
     have HOK := Lib.hid hok
     clear hR hm hok hall hoks hrF hrF2 hDr hown hcF hft
     have hL6 := hL
     go_upto_region 12 with fail
     refine (wpIn_wide (n := 12)).1 ?_
     refine wpIn_region_put wide_wide [Pr.eq (.int .i64 a), Pr.eq (.slice Fb k cF), Pr.eq (.slice D (k - 1) (cF - 1)), Pr.sent wr.heap.size m er S, Pr.sent wr.heap.size m er S, Pr.nsl wr.heap.size m S, Pr.eq (.int .i64 er), Pr.newT wr.heap.size 101 oneSl, Pr.any] 7 8 101 oneSl (fun cs W => ∃ B c', cs = #[.slice B m c'] /\ NumsAt wr.heap.size S B W) (fun cs W W' ⟨B, c', e, h⟩ hL => ⟨B, c', e, h.later hL⟩) rfl rfl ⟨putOk_eq, putOk_eq, putOk_eq, (by first | exact putOk_sent | exact putOk_nsl), (by first | exact putOk_sent | exact putOk_nsl), (by first | exact putOk_sent | exact putOk_nsl), putOk_eq, putOk_new, putOk_any, trivial⟩ (by kernel_rfl) (by kernel_rfl) (by kernel_rfl) (by kernel_rfl) (by kernel_rfl) (by kernel_rfl) rfl (by decide) (by kernel_rfl) ⟨?_, ?_, ?_, ?_, ?_, ?_, ?_, ?_, ?_, trivial⟩ ?_
     ·exact putStep_val (by decide) fun ac W hL he => stepOk_want rfl (op_load rfl (he.k 3) (ldI64 (c0L W hL)) rfl)
     ·exact putStep_val (by decide) fun ac W hL he => stepOk_want rfl (op_move rfl (he.k 9))
     ·exact putStep_val (by decide) fun ac W hL he => stepOk_want rfl (op_slice (W' := W) rfl (he.g 1 54) (congrArg some rfl) (rfl : _ = none) rfl (hsl W) rfl)
     ·refine putStep_val (by decide) fun ac W hL he => ?_; refine stepOk_want rfl ?_; have e53 : ac.eval (.tmp 53) = .int .i64 a := he.g 0 53; have e55 : ac.eval (.tmp 55) = .slice D (k - 1) (cF - 1) := he.g 2 55; exact op_callF (vs := #[.int .i64 a, .slice D (k - 1) (cF - 1)]) rfl (by simp only [List.map_toArray, List.map_cons, List.map_nil, e53, e55]) (enters_of Tryz.func48 (by kernel_rfl) rfl) ((hroute W hL).mono fun e W' ⟨⟨v, he', B, c', hv, hr, hf⟩, hb⟩ => ⟨_, he', hb, B, c', by rw [hv], hr, fun b o e => Nat.le_trans hL.size (hf b o e)⟩)
     ·exact putStep_val (by decide) fun ac W hL he => stepOk_want rfl (op_move rfl (he.g 3 56))
     ·refine putStep_val (by decide) fun ac W hL he => ?_; refine stepOk_want rfl ?_; obtain ⟨B, c', e52, hr⟩ : ∃ B c', ac.eval (.tmp 52) = .tuple #[.slice B m c', .int .i64 er] /\ NumsAt wr.heap.size S B W := he.g 4 52; exact op_extract rfl e52 rfl ⟨B, c', rfl, hr⟩
     ·refine putStep_val (by decide) fun ac W hL he => ?_; refine stepOk_want rfl ?_; obtain ⟨B, c', e52, hr⟩ : ∃ B c', ac.eval (.tmp 52) = .tuple #[.slice B m c', .int .i64 er] /\ NumsAt wr.heap.size S B W := he.g 4 52; exact op_extract rfl e52 rfl rfl
     ·exact putStep_val (by decide) fun ac W hL he => stepOk_want rfl (op_alloc rfl (allocInts W) (below_new W _) ⟨W.heap.size, _, rfl, hL.size, ⟨none, 0, 0, rfl⟩, Row.new W _ _⟩)
     ·refine putStep_put (.tmp 57) 14 rfl rfl rfl rfl (by kernel_rfl) fun ac W g cs hL he hg hz hr => ?_; have ey := (he.g 5 57); obtain ⟨B, c', e57, hrB⟩ : ∃ B c', ac.eval (.tmp 57) = .slice B m c' /\ NumsAt wr.heap.size S B W := ey; rw [e57]; obtain ⟨A1, n1, c1, rfl⟩ := hz; have hr1 := hr.set 0 (.slice B m c'); have hgr := grown_set W g 0 (.slice B m c'); exact ⟨_, _, storeInts1 ⟨A1, n1, c1, rfl⟩ hr, hr1, ⟨B, m, c', rfl⟩, hgr, B, c', rfl, hrB.1.put1 ⟨g, _, _, hg, ⟨A1, n1, c1, rfl⟩, ⟨B, m, c', rfl⟩, hr, hr1, hgr⟩, hrB.2⟩
     intro xs W hL hx hput hk hget
     obtain ⟨g14, cs14, e14, hg14, k14, B, c', rfl, hrd⟩ := hput
     have v6 : xs 6 = .int .i64 er := hx 6 (by decide)
     have e8 := (hk (.tmp 8) (by kernel_rfl)).trans (rfl : _ = Value.pointer (some ⟨q5, 0, none⟩))
     have e58 := (hget 6 58 (by decide) rfl).trans v6
     have hP14 := hP.later hL
     have hL14 : Later w6 W := hL6.step hL
     refine last_store rfl rfl e8 e58 (storeErr1 hP14.r5) ?_
     simp only [initL, putL, Nat.reduceAdd, Act.put, List.setIfInBounds_toArray, List.set_cons_succ, List.set_cons_zero]
     rw [e14]
     have hd5 : q5 < w6.heap.size := hqw.2.2.2.2.2
     have hszW := hL14.size
     have hg14' : w6.heap.size <= g14 := Nat.le_trans hL6.size hg14
     have hgr5 := grown_set W q5 0 (.int .i64 er)
     have hPS : PR w q0 q1 q2 q3 q4 q5 a x A k c noHop (.slice none 0 0) er (W.setCell ⟨q5, 0, none⟩ (.int .i64 er)) :=
      ⟨hP14.r0.far (p := ⟨q5, 0, none⟩) (ne_rows hP14.r0 hP14.r5 (by decide)) _, hP14.r1.far (p := ⟨q5, 0, none⟩) (ne_rows hP14.r1 hP14.r5 (by decide)) _, hP14.r2.far (p := ⟨q5, 0, none⟩) (ne_rows hP14.r2 hP14.r5 (by decide)) _, hP14.r3.far (p := ⟨q5, 0, none⟩) (ne_rows hP14.r3 hP14.r5 (by decide)) _, hP14.r4.far (p := ⟨q5, 0, none⟩) (ne_rows hP14.r4 hP14.r5 (by decide)) _, hP14.r5.set 0 _, hP14.b.setCell (p := ⟨q5, 0, none⟩) hq5 _⟩
     have k14S := k14.far (p := ⟨q5, 0, none⟩) (by show g14 ≠ q5; omega) (.int .i64 er)
     have hrdS : NumsAt w6.heap.size S B (W.setCell ⟨q5, 0, none⟩ (.int .i64 er)) :=
      ⟨hrd.1.same (Same.set W ⟨q5, 0, none⟩ _) (fun b o e _ _ => by have := hrd.2 b o e; have := hL6.size; show b ≠ q5; omega), fun b o e => Nat.le_trans hL6.size (hrd.2 b o e)⟩
     have c5 : (W.setCell ⟨q5, 0, none⟩ (.int .i64 er)).cell? ⟨q5, 0, none⟩ = some (.int .i64 er) := (hPS.r5.cell 0).trans rfl
     have hszS : w6.heap.size <= (W.setCell ⟨q5, 0, none⟩ (.int .i64 er)).heap.size := by rw [show (W.setCell ⟨q5, 0, none⟩ (.int .i64 er)).heap.size = W.heap.size by simp [World.setCell]]; exact hszW
     clear hx hk hget e8 e58 v6 hP14
     generalize W.setCell ⟨q5, 0, none⟩ (.int .i64 er) = WS at *
     by_cases her : er = 0
     ·subst her
      have hmk := makeHops k hn16.2
      have c2S := loadEdges ((hPS.r2.cell 0).trans rfl)
      have c4S : WS.cell? ⟨q4, 0, none⟩ = some (.slice none 0 0) := (hPS.r4.cell 0).trans rfl
      have hm : m = k := by
       have h1 := routeS_len (a := a) (fs := feesOf l.tail) (by rw [HRT.out])
       rw [HRT.out] at h1
       simp only at h1
       rw [HM.out] at h1
       rw [h1, feesOf, List.length_map, List.length_tail, HN.out]
       omega
      subst hm
      have hgs : w6.heap.size <= WS.heap.size := hszS
      have gst0 := Row.new WS 27 (List.replicate m (hopL noHop)).flatten.toArray
      have LT := below_new WS (.cells (List.replicate m (hopL noHop)).flatten.toArray 27)
      obtain ⟨gst, hgst⟩ : ∃ g, g = WS.heap.size := ⟨_, rfl⟩
      have hSne0 : S ≠ [] := fun e => by have := HM.out; rw [e] at this; simp at this; omega
      have hBg : ∀ b o, B = some ⟨b, o, none⟩ -> b < gst := fun b o e => by
       subst e
       obtain ⟨b', o', e', hc'⟩ := hrdS.1 (by simpa using hSne0)
       injection e' with e'
       injection e' with e1 e2
       subst e1
       rw [hgst]
       exact block_lt_of_cell (hc' 0 (by simpa using List.length_pos_iff.2 hSne0))
      rw [<- hgst] at gst0
      have hPT := hPS.later LT
      have k14T := k14S.later LT
      have nT := hrdS.later LT
      have hmk1 := hmk WS
      rw [<- hgst] at hmk1
      clear hmk
      have cT4 : (WS.alloc (.cells (List.replicate m (hopL noHop)).flatten.toArray 27)).cell? ⟨q4, 0, none⟩ = some (.slice none 0 0) := (hPT.r4.cell 0).trans rfl
      have fT4 := hPT.r4.frozen 0
      have hbk := fun W => backE_any A m c W
      have cU2 : ∀ X v, PR w q0 q1 q2 q3 q4 q5 a x A m c noHop v 0 X -> (Instr.loadAt 40 (.pointer (some ⟨q2, 0, none⟩))).run Tryz.prog X = .ok (.slice A m c) X := fun X v h => loadEdges ((h.r2.cell 0).trans rfl)
      generalize WS.alloc (.cells (List.replicate m (hopL noHop)).flatten.toArray 27) = WT at *
      have hPU : PR w q0 q1 q2 q3 q4 q5 a x A m c noHop (.slice (some ⟨gst, 0, none⟩) m m) 0 (WT.setCell ⟨q4, 0, none⟩ (.slice (some ⟨gst, 0, none⟩) m m)) :=
       ⟨hPT.r0.far (p := ⟨q4, 0, none⟩) (ne_rows hPT.r0 hPT.r4 (by decide)) _, hPT.r1.far (p := ⟨q4, 0, none⟩) (ne_rows hPT.r1 hPT.r4 (by decide)) _, hPT.r2.far (p := ⟨q4, 0, none⟩) (ne_rows hPT.r2 hPT.r4 (by decide)) _, hPT.r3.far (p := ⟨q4, 0, none⟩) (ne_rows hPT.r3 hPT.r4 (by decide)) _, hPT.r4.set 0 _, hPT.r5.far (p := ⟨q4, 0, none⟩) (ne_rows hPT.r5 hPT.r4 (by decide)) _, hPT.b.setCell (p := ⟨q4, 0, none⟩) hq4 _⟩
      have hgsz : w6.heap.size <= gst := by omega
      clear hgst hgs hszS
      go_upto_region 15 with (first
       | (go_at_call 32; refine (rmust_ok _ _).mono ?_; rintro e w7 ⟨h7, rfl⟩; obtain rfl := h7.symm)
       | (guard_target =~ wpList _ _ _ (_ :: _) _ _; refine wpList_load rfl 40 (.tmp 5) rfl (.pointer (some ⟨q2, 0, none⟩)) rfl c2S ?_)
       | fail)
      have gstU := gst0.far (p := ⟨q4, 0, none⟩) (by show gst ≠ q4; omega) (.slice (some ⟨gst, 0, none⟩) m m)
      have k14U := k14T.far (p := ⟨q4, 0, none⟩) (by show g14 ≠ q4; omega) (.slice (some ⟨gst, 0, none⟩) m m)
      have nU : NumsAt w6.heap.size S B (WT.setCell ⟨q4, 0, none⟩ (.slice (some ⟨gst, 0, none⟩) m m)) :=
       ⟨nT.1.same (Same.set WT ⟨q4, 0, none⟩ _) (fun b o e _ _ => by have := nT.2 b o e; show b ≠ q4; omega), nT.2⟩
      clear hPT k14T nT gst0 hPS k14S hrdS hmk1 cT4 fT4 LT c2S c5
      generalize WT.setCell ⟨q4, 0, none⟩ (.slice (some ⟨gst, 0, none⟩) m m) = WU at *
      have c2U := cU2 WU _ hPU
      have hLB := below_new WU (.cells #[.slice A m c] 40)
      have gbB := Row.new WU 40 #[.slice A m c]
      have hPB := hPU.later hLB
      have gstB := gstU.later hLB
      have k14B := k14U.later hLB
      have nB := nU.later hLB
      have hgbk := hbk WU
      have hUw : w.heap.size <= WU.heap.size := hPU.b.size
      have hqU : q0 < WU.heap.size /\ q1 < WU.heap.size /\ q2 < WU.heap.size /\ q3 < WU.heap.size /\ q4 < WU.heap.size /\ q5 < WU.heap.size := ⟨hPU.r0.lt, hPU.r1.lt, hPU.r2.lt, hPU.r3.lt, hPU.r4.lt, hPU.r5.lt⟩
      have hsU := k14U.lt
      have hsU2 := gstU.lt
      go_wp2_with (first
       | (guard_target =~ wpList _ _ _ (_ :: _) _ _; refine wpList_load rfl 40 (.tmp 5) rfl (.pointer (some ⟨q2, 0, none⟩)) rfl c2U ?_)
       | (go_at_call 49; refine hgbk.mono ?_; clear hgbk; rintro e w7 ⟨rfl, h7⟩; obtain rfl := h7)
       | fail)
      refine (wpIn_wide (n := 12)).1 ?_
      obtain ⟨gb, hgb⟩ : ∃ g, g = WU.heap.size := ⟨_, rfl⟩
      have hszB : (WU.alloc (.cells #[.slice A m c] 40)).heap.size = gb + 1 := by rw [World.size_alloc, hgb]
      rw [<- hgb] at gbB hqU hsU hsU2 ⊢
      have hUb : w6.heap.size <= gb := by omega
      have hwg : w.heap.size <= gb := by omega
      clear hgb c2U cU2 hbk hLB hPU gstU k14U nU
      generalize WU.alloc (.cells #[.slice A m c] 40) = WB at *
      have hnB : ∀ b o, B = some ⟨b, o, none⟩ -> S ≠ [] -> b < WB.heap.size /\ w6.heap.size <= b := fun b o e hne => by
       subst e
       obtain ⟨b', o', e', hc'⟩ := nB.1 (by simpa using hne)
       injection e' with e'
       injection e' with e1 e2
       subst e1
       exact ⟨block_lt_of_cell (hc' 0 (by simpa using List.length_pos_iff.2 hne)), nB.2 _ _ rfl⟩
      have hAb : ∀ b o, A = some ⟨b, o, none⟩ -> b < w.heap.size := fun b o e => by
       subst e
       obtain ⟨b', o', e', hc'⟩ := HA.out.at_ (k := 0) (by rw [List.length_map, HN.out]; omega)
       injection e' with e'
       injection e' with e1 e2
       subst e1
       rw [List.getElem_map] at hc'
       have h0 := hc' 64 (.int .i64 (l[0]'(by rw [HN.out]; omega)).base) (by rw [Array.getElem?_toList]; exact (edgeC_num (HL.out _ (List.getElem_mem _))).1)
       exact block_lt_of_cell h0
      have hseq := backE1_seq l HL.out gb A m c WB 11 (by omega) (fun b => b = q3 \/ b = gst \/ b = WB.heap.size + 1) (by omega) (fun b o e => by have := hAb b o e; omega) HN.out (by omega) (HA.out.below hPB.b) gbB
      have HS := Lib.hid hseq
      have HLT : Hid (q0 < WB.heap.size /\ q1 < WB.heap.size /\ q2 < WB.heap.size /\ q3 < WB.heap.size /\ q4 < WB.heap.size /\ q5 < WB.heap.size) := Lib.hid (by omega)
      have hSne : S ≠ [] := fun e => by have := HM.out; rw [e] at this; simp at this; omega
      have hPJ0 : PJ w q0 q1 q2 q3 q4 q5 g14 gst a x A m c l S B c' 0 WB := ⟨hPB, k14B, by simpa [stL] using gstB, nB.1⟩
      have HPJ0 := Lib.hid hPJ0
      have HNB := Lib.hid hnB
      have hplan : plan a x l = (firstAt x S l 0, (List.range l.length).map (stepAt a x S l), 0) := by
       unfold plan
       rw [if_pos HOK.out, HRT.out, if_pos rfl, if_pos (HNO0.out HOK.out (by rw [HRT.out]))]
      have HPLAN := Lib.hid hplan
      have hno1 : expAt x l 0 <= 2147483647 := HNO0.out HOK.out (by rw [HRT.out])
      have hallE : l.all okE = true := by
       have := HOK.out
       unfold okPlan at this
       simp only [Bool.and_eq_true] at this
       exact this.2
      have hpx : 1 <= x /\ x <= 2147483647 := by
       have := HB2.out
       unfold paid at this
       simp only [Bool.and_eq_true, decide_eq_true_eq] at this
       exact this.2
      clear hseq hPJ0 hnB hplan hPB k14B gstB nB gbB
      refine wpIn_name fun T0 hT0 => ?_
      refine wpIn_range_W (α := Int × Rt.Edge) (Kp := fun _ => KeepB (fun b => b = q3 \/ b = gst \/ b = WB.heap.size + 1)) rfl (by omega) (gf := 100) (lb := #[.pointer (some ⟨gb, 0, none⟩)]) (by rw [hT0]; rfl) trivial (enters_of Tryz.func100 (by kernel_rfl) rfl)
       HS.out (fun r h => h.elim) (fun h k => h.trans k) (fun x W o => KeepB.put W o (.inr (.inr rfl))) (Below.refl _ _) (fun _ => rfl)
       (fun pre X => pre.length <= m /\ PJ w q0 q1 q2 q3 q4 q5 g14 gst a x A m c l S B c' pre.length X)
       (fun c _ X => False)
       (fun pre X Y ⟨h1, h2⟩ hs => ⟨h1, h2.same hs HLT.out (by omega) (by omega) (by omega) (fun b o e => (HNB.out b o e hSne).1)⟩)
       (fun c pre X Y h _ => h)
       ⟨by simp, HPJ0.out⟩
       (fun pre x a' X => ∃ q16, a' = { tmps := ((((T0.setIfInBounds 68 (.int .i64 x.1)).setIfInBounds 69 (.agg (edgeC x.2))).setIfInBounds 15 (.int .i64 x.1)).setIfInBounds 16 (.pointer (some ⟨q16, 0, none⟩))), defers := [] } /\ (pre.length < m /\ x = bAt l pre.length) /\ Row X q16 44 (edgeC x.2) /\ WB.heap.size + 2 <= q16)
       (fun pre x a' X o ⟨gt, h1, h2, h3, h4⟩ => ⟨gt, h1, h2, (World.putObj_heap_other (by omega)).trans h3, h4⟩) ?assign ?body ?done ?stop
      case assign =>
       intro l0 pre x X K hXs hi hok2 hK
       have hxw : x.2.wf := by rw [hok2.2]; exact bAt_wf HL.out _
       obtain ⟨w9, hst, k9, hL9⟩ := newEdge X hxw
       have HK := Lib.hid hK
       have HI := Lib.hid hi
       have HOK2 := Lib.hid hok2
       clear hK hi hok2
       have e89 : ((#[68, 69] : Array Tmp).zip (bE x)).foldl (fun t (p, v) => t.setIfInBounds p v) T0 = (T0.setIfInBounds 68 (.int .i64 x.1)).setIfInBounds 69 (.agg (edgeC x.2)) := by simp
       rw [e89, hT0]
       clear e89
       simp only [List.setIfInBounds_toArray, List.set_cons_succ, List.set_cons_zero]
       gi_wp2_with (first
        | (refine wpListIn_allocG rfl 44 rfl (allocEdge _) ?_)
        | (refine wpListIn_storeG rfl 44 (.tmp 16) (.tmp 69) rfl (.pointer (some ⟨X.heap.size, 0, none⟩)) (.agg (edgeC x.2)) rfl rfl hst ?_)
        | fail)
       obtain ⟨i1, i2⟩ := HI.out
       exact HK.out _ _ (KeepsFrom.of_later hL9) (KeepB.later hL9) ⟨i1, i2.same ((Same.of_below hL9).mono fun k hk => by have := hk.1; omega) HLT.out (by omega) (by omega) (by omega) (fun b o e => (HNB.out b o e hSne).1)⟩ ⟨X.heap.size, by rw [hT0]; rfl, HOK2.out, k9, hXs⟩
      case body =>
       rintro l0 pre x' a' X hl0 hlo hXs ⟨hple, hPJ⟩ ⟨q16, rfl, ⟨hlt, hx'⟩, hr16, hq16⟩
       obtain ⟨j, hj⟩ : ∃ j, pre.length = j := ⟨_, rfl⟩
       rw [hj] at hPJ hlt hx' hple
       obtain ⟨i, hij⟩ : ∃ i, i + 1 + j = m := ⟨m - 1 - j, by omega⟩
       have hil : i < l.length := by rw [HN.out]; omega
       have hxe : x' = ((i : Int), l[i]) := by
        rw [hx']
        unfold bAt
        rw [HN.out, show m - 1 - j = i by omega, getD_lt hil]
       obtain ⟨ed, hed⟩ : ∃ e, l[i] = e := ⟨_, rfl⟩
       rw [hed] at hxe
       subst hxe
       have hst := hPJ.st
       rw [st_open hij] at hst
       have hplen : (pre ++ [((i : Int), ed)]).length = j + 1 := by rw [List.length_append, hj]; rfl
       have hiv := fun Y (hY : Row Y gst 27 (stRow i (hopL (stepAt a x S l i)) (stL a x S l j))) => show Row Y gst _ _ from (st_shut (a := a) (x := x) (S := S) (l := l) HN.out hij) ▸ hY
       have hap : Apart w q0 q1 q2 q3 q4 q5 g14 gst q16 B := by
        refine ⟨⟨by omega, hq3⟩, ⟨by omega, by omega, by omega, by omega, by omega, by omega, ?_, by omega⟩, ⟨ne_rows hPJ.pr.r0 hPJ.pr.r3 (by decide), ne_rows hPJ.pr.r1 hPJ.pr.r3 (by decide), ne_rows hPJ.pr.r2 hPJ.pr.r3 (by decide), ne_rows hPJ.pr.r4 hPJ.pr.r3 (by decide), ne_rows hPJ.pr.r5 hPJ.pr.r3 (by decide), ne_rows hPJ.k14 hPJ.pr.r3 (by decide), by omega⟩, fun b o e => ?_⟩
        ·exact ne_rows hPJ.k14 hPJ.st (by decide)
        ·have := HNB.out b o e hSne
         have hbg := hBg b o e
         exact ⟨by omega, by omega⟩
       rw [hT0]
       simp only [List.setIfInBounds_toArray, List.set_cons_succ, List.set_cons_zero]
       refine plan_round _ (by kernel_rfl) w q0 q1 q2 q3 q4 q5 g14 gst q16 a x A m c l S B c' j i l0 _ X ed (by rw [List.getElem?_eq_getElem hil, hed]) HL.out HN.out hij hn16.2 HM.out hallE hpx hap (fun Y hY => HA.out.below hY) ⟨hPJ.pr, hPJ.k14, hPJ.nums, hr16⟩ hst _ (fun _ a' Y hRQ hR hK => ?_) (fun hov => absurd (Int.le_trans (expAt_le x l hallE i) hno1) hov) _ _ _ _ _ _ _ _ _ _ _ _ _ _ _ _ _ _ _ _ _ _ _ _ _ _ _ _ _ _ _ _ _ _ _ _ _ _ _ _ _ _ _ _ _ _ _ _ _ _ _ _ _ _ _ _ _ _ _ _ _ _ _ _ _ _ _ _ _ _ _ _ _ _ _ _ _ _ _ _ _ _ _ _ _ _ _ _ _ _ _ _ _ _ _ _ _ _ _ _ _ _ _ _ _ _ _ _ _ _ _ _ _ _ _ _ _ _ _ _ _ _
       refine ⟨hK.from_ (fun b hb => by omega), hK.mono (fun b hb => by rcases hb with h | h; exact .inl h; exact .inr (.inl h)), by rw [hplen]; omega, ?_⟩
       rw [hplen]
       refine ⟨?_, hRQ.k14, hiv Y hR, hRQ.nums⟩
       have e : frst x S l (j + 1) = firstAt x S l i := by
        unfold frst
        rw [if_neg (by omega), HN.out, show m - (j + 1) = i by omega]
       rw [e]
       exact hRQ.pr
      case done =>
       rintro D0 ys X hD hS ⟨h1, hPJ⟩ hK
       have hys : ys.length = m := hS
       rw [hys] at hPJ
       have hfr : frst x S l m = firstAt x S l 0 := by
        unfold frst
        rw [if_neg (by omega), HN.out, Nat.sub_self]
       have hfw := firstAt_wf (x := x) (S := S) HL.out (i := 0) (by rw [HN.out]; omega)
       have hst := hPJ.st
       rw [st_all HN.out] at hst
       have hpr := hPJ.pr
       rw [hfr] at hpr
       have hDq : q0 < D0 /\ q1 < D0 /\ q3 < D0 /\ q4 < D0 /\ q5 < D0 /\ gst < D0 := by have := HLT.out; omega
       have hwD : w.heap.size <= D0 := by omega
       have hn3 : q0 ≠ q3 /\ q1 ≠ q3 := ⟨ne_rows hpr.r0 hpr.r3 (by decide), ne_rows hpr.r1 hpr.r3 (by decide)⟩
       have hg34 : gst ≠ q3 /\ gst ≠ q4 /\ gst ≠ q5 := by omega
       obtain ⟨F0, hF0⟩ : ∃ F, firstAt x S l 0 = F := ⟨_, rfl⟩
       rw [hF0] at hfw hpr
       obtain ⟨ST, hST⟩ : ∃ ST, (((List.range l.length).map (stepAt a x S l)).map hopL).flatten.toArray = ST := ⟨_, rfl⟩
       rw [hST] at hst
       have hPF0 : PF w q0 q1 q2 q3 q4 q5 gst D0 a x A m c F0 ST X := ⟨hpr, hst, hK⟩
       have HF0 := Lib.hid hF0
       have HST := Lib.hid hST
       clear hPJ hst hpr hfr hF0 hST hK
       rw [hT0]
       go_upto_region 26 with fail
       refine (wpIn_wide (n := 0)).1 ?_
       refine wpIn_region_chain wide_wide [.agg (hopC F0), .slice (some ⟨gst, 0, none⟩) m m, undef, undef] [2, 3] (fun k W => PF w q0 q1 q2 q3 q4 q5 gst D0 a x A m c F0 ST W) (fun m W W' hL h => h.later hL) hPF0 (by kernel_rfl) (by kernel_rfl) (by kernel_rfl) (by kernel_rfl) (by kernel_rfl) (by kernel_rfl) rfl (by decide) rfl ⟨?_, ?_, ?_, ?_, trivial⟩ ?_
       ·exact chStep_val rfl (fun ac W m he hA => stepOk_want rfl (op_load rfl (he.k 6) (loadHopR hfw hA.pr.r3) rfl))
       ·exact chStep_val rfl (fun ac W m he hA => stepOk_want rfl (op_load rfl (he.k 7) (loadHops ((hA.pr.r4.cell 0).trans rfl)) rfl))
       ·refine chStep_put (k := 0) rfl (.inl rfl) (fun ac W he hA => ⟨rfl, ?_⟩)
        obtain ⟨W', hs, h1, h2⟩ := storeHop hfw hfw hA.pr.r3
        exact op_storeK rfl (he.k 6) (show ac.eval (.tmp 128) = .agg (hopC F0) from he.v 0 128) hs ⟨undef, rfl, hA.pr.in3 h2 h1 hq3 hn3, hA.st.grown h2 (fun e => hg34.1 (Option.some.inj e)), (h2.block D0 (Array.getElem?_eq_some_iff.1 hA.d).1 (fun e => by have := Option.some.inj e; omega)).trans hA.d⟩
       ·refine chStep_put (k := 1) rfl (.inr (by kernel_rfl)) (fun ac W he hA => ⟨rfl, ?_⟩)
        exact op_storeK rfl (he.k 7) (show ac.eval (.tmp 129) = .slice (some ⟨gst, 0, none⟩) m m from he.v 1 129) (storeHopsV rfl hA.pr.r4) ⟨undef, rfl, hA.pr.set4 hq4 _, hA.st.far (p := ⟨q4, 0, none⟩) hg34.2.1 _, (Below.heap_setCell W ⟨q4, 0, none⟩ _ D0 (by show D0 ≠ q4; omega)).trans hA.d⟩
       intro xs W hA hxs hk hgt
       have hA : PF w q0 q1 q2 q3 q4 q5 gst D0 a x A m c F0 ST W := hA
       refine last_store rfl rfl (hk (.tmp 8) (by kernel_rfl)) rfl (storeErr1 hA.pr.r5) ?_
       have hP5 := hA.pr.set5 hq5 0
       have hs5 := hA.st.far (p := ⟨q5, 0, none⟩) hg34.2.2 (.int .i64 0)
       have hD5 : (W.setCell ⟨q5, 0, none⟩ (.int .i64 0)).heap[D0]? = some (.deferred (some [])) := (Below.heap_setCell W ⟨q5, 0, none⟩ _ D0 (by show D0 ≠ q5; omega)).trans hA.d
       clear hxs hk hgt hA hPF0
       simp only [initL, lastL, putL, Nat.reduceAdd, Act.put, List.setIfInBounds_toArray, List.set_cons_succ, List.set_cons_zero]
       generalize W.setCell ⟨q5, 0, none⟩ (.int .i64 0) = W6 at *
       go_wp2_with fail
       refine leavesM_mark (by simp) hD5 ?_
       refine leavesM_cons (f := 30) (args := #[.pointer (some ⟨q5, 0, none⟩), .func (.func 45) #[] #[.pointer (some ⟨q3, 0, none⟩), .pointer (some ⟨q4, 0, none⟩)]]) (by simp) rfl (by simp [go_sem]) ?_
       refine (rcaughtIn_idle _ _ _ _).mono ?_
       rintro e u' w'' ⟨rfl, rfl, hww⟩
       have ho : ∀ {g : Nat} {T : TypeId} {cs : Array Value}, Row W6 g T cs -> g ≠ D0 -> Row w'' g T cs := fun hr hn => by
        rw [hww]
        exact (World.putObj_heap_other hn).trans hr
       have kQ := ho hP5.r3 (by omega)
       have k4 := ho hP5.r4 (by omega)
       have k5 := ho hP5.r5 (by omega)
       have ks := ho hs5 (by omega)
       have hbb : Below w.heap.size w w'' := by rw [hww]; exact hP5.b.trans (below_put _ _ _ _ hwD hP5.b.size)
       show ∃ v, _ /\ _
       refine ⟨_, results_ccc rfl _ _ q3 q4 q5 27 (hopC F0) _ (.slice (some ⟨gst, 0, none⟩) m m) _ rfl rfl rfl kQ Tryz.underlying27 rfl (by rw [hopC_size hfw]; exact infoHop) (loadHopsVar ((k4.cell 0).trans rfl)) (loadErr ((k5.cell 0).trans rfl)), HΦ.out _ _ ⟨⟨.slice (some ⟨gst, 0, none⟩) m m, by rw [HPLAN.out, <- HF0.out], some ⟨gst, 0, none⟩, m, by rw [HPLAN.out]; simp [HN.out], ?_⟩, hbb⟩⟩
       rw [HPLAN.out]
       refine Recs.row ks (fun l' hl' => ?_) (fun j v hv => by rw [<- HST.out, List.getElem?_toArray]; exact hv)
       obtain ⟨h, hh, rfl⟩ := List.mem_map.1 hl'
       obtain ⟨i, hi, rfl⟩ := List.mem_map.1 hh
       exact hopL_len (stepAt_wf HL.out (List.mem_range.1 hi))
      case stop =>
       exact fun _ _ _ _ _ _ h _ => h.elim
     ·have e1 : (er == 0) = false := by simpa using her
      have HNO : plan a x l = (noHop, [], er) := by
       unfold plan
       rw [if_pos HOK.out, HRT.out, if_neg her]
      go_wp2_with (first
       | (go_at_call 32; refine (rmust_no _ _).mono ?_; rintro e w7 ⟨h7, rfl⟩; obtain rfl := h7.symm)
       | fail)
      have hF := hPS
      refine leavesM_cons (f := 30) (args := #[.pointer (some ⟨q5, 0, none⟩), .func (.func 45) #[] #[.pointer (some ⟨q3, 0, none⟩), .pointer (some ⟨q4, 0, none⟩)]]) (by simp) rfl (by simp [go_sem]) ?_; refine (plan_caught _ q3 q4 q5 _ hwF _ _ _ w _ hF.r3 hF.r4 hF.r5 hF.b hq3 hq4 hq5).mono ?_; rintro e u' w'' ⟨rfl, rfl, kQ, cV, cE, hbG⟩; show ∃ v, _ /\ _; exact ⟨_, results_ccc rfl _ _ q3 q4 q5 27 (hopC noHop) _ (.slice none 0 0) _ rfl rfl rfl kQ Tryz.underlying27 rfl (by rw [hopC_size noHop_wf]; exact infoHop) (loadHopsVar cV) (loadErr cE), HΦ.out _ _ ⟨⟨.slice none 0 0, by rw [HNO], none, 0, by rw [HNO]; rfl, by rw [HNO]; exact Recs.nil _ _ _⟩, hbG⟩⟩
def hash1 (b : UInt8) : List UInt8 := b :: Sha.zeros 31
theorem hash1_len (b : UInt8) : (hash1 b).length = 32 := by simp [hash1, Sha.zeros]
def hopW : Hop := ⟨zh, hash1 1, 1, 1⟩
def edgeW (b : UInt8) : Rt.Edge := ⟨zh, hash1 b, 1, 0, 6⟩
theorem hopW_wf : hopW.wf := ⟨zh_len, hash1_len _⟩
theorem edgeW_wf (b : UInt8) : (edgeW b).wf := ⟨zh_len, hash1_len _⟩
theorem bHash1 (w : World) : (Instr.build 25 #[(0, .int .u8 1)]).run Tryz.prog w = .ok (.agg (hC (hash1 1))) w := by kernel_rfl
theorem bHash2 (w : World) : (Instr.build 25 #[(0, .int .u8 2)]).run Tryz.prog w = .ok (.agg (hC (hash1 2))) w := by kernel_rfl
theorem bHopW (w : World) : (Instr.build 27 #[(1, .agg (hC (hash1 1))), (2, .int .i64 1), (3, .int .i64 1)]).run Tryz.prog w = .ok (.agg (hopC hopW)) w := by kernel_rfl
theorem bHopsW (w : World) : (Instr.buildSlice 22 1 #[(0, .agg (hopC hopW))]).run Tryz.prog w = .ok (.slice (some ⟨w.heap.size, 0, none⟩) 1 1) (w.alloc (.cells (hopC hopW) 27)) := by kernel_rfl
theorem bFeeW (w : World) : (Instr.build 42 #[(0, .int .i64 1)]).run Tryz.prog w = .ok (.agg #[.int .i64 1, .int .i64 0]) w := by kernel_rfl
theorem bEdge1 (w : World) : (Instr.build 44 #[(2, .agg #[.int .i64 1, .int .i64 0]), (3, .int .i64 6), (1, .agg (hC (hash1 1)))]).run Tryz.prog w = .ok (.agg (edgeC (edgeW 1))) w := by kernel_rfl
theorem bEdge2 (w : World) : (Instr.build 44 #[(2, .agg #[.int .i64 1, .int .i64 0]), (3, .int .i64 6), (1, .agg (hC (hash1 2)))]).run Tryz.prog w = .ok (.agg (edgeC (edgeW 2))) w := by kernel_rfl
theorem bEdges (w : World) : (Instr.buildSlice 40 2 #[(0, .agg (edgeC (edgeW 1))), (1, .agg (edgeC (edgeW 2)))]).run Tryz.prog w = .ok (.slice (some ⟨w.heap.size, 0, none⟩) 2 2) (w.alloc (.cells ([edgeW 1, edgeW 2].map edgeL).flatten.toArray 44)) := by kernel_rfl
theorem bInvW (w : World) : (Instr.build 51 #[(3, .int .i64 1)]).run Tryz.prog w = .ok (.agg (hopC ⟨zh, zh, 0, 1⟩)) w := by kernel_rfl
def firstW : Hop := ⟨zh, hash1 1, 101, 56⟩
def stepsW : List Hop := [⟨zh, hash1 2, 100, 50⟩, ⟨zh, zh, 100, 50⟩]
theorem planW : plan 100 50 [edgeW 1, edgeW 2] = (firstW, stepsW, 0) := by kernel_rfl
theorem parseW : openE (unhex (([116, 97, 108, 108, 121, 48, 48] : List UInt8).drop 5)) ≠ 0 := by decide +kernel
theorem expW : expAt 50 [edgeW 1, edgeW 2] 0 <= 2147483647 := by decide +kernel
theorem nextW : (hopW.next == zh) = false := by decide +kernel
theorem paidW : paid hopW.amt hopW.exp = true := by kernel_rfl
theorem plan_two (A : Option Addr) (c : Nat) (W : World) (h : Recs 67 W A ([edgeW 1, edgeW 2].map edgeL)) (hc : 2 <= c) : Calls Tryz.prog 14 #[.int .i64 100, .int .i64 50, .slice A 2 c] W fun e w' => (∃ B c', e = .returned (.tuple #[.agg (hopC firstW), .slice B 2 c', .int .i64 0]) /\ Recs 66 w' B (stepsW.map hopL)) /\ Below W.heap.size W w' := by
 have h1 := callsIn_wide.1 (plan_main 100 50 A 2 c [edgeW 1, edgeW 2] W (fun e he => by simp at he; rcases he with rfl | rfl <;> exact edgeW_wf _) rfl (by decide) hc h (fun _ _ => expW))
 rw [planW] at h1
 refine h1.mono ?_
 rintro e w' ⟨⟨v, he, B, c', hv, hr⟩, hb⟩
 exact ⟨⟨B, c', by rw [he, hv]; rfl, hr⟩, hb⟩
theorem peel_nil (W : World) : Calls Tryz.prog 12 #[.agg (hC zh), .string ⟨#[]⟩] W fun e w' => e = .returned (.tuple #[.agg (hopC noHop), .string ⟨#[]⟩, .int .i64 350]) /\ Below W.heap.size W w' := peel_short zh zh_len ⟨#[]⟩ (.inl (by decide)) W
theorem parse_00 (W : World) : Calls Tryz.prog 18 #[.string ⟨#[116, 97, 108, 108, 121, 48, 48]⟩] W fun e w' => e = .returned (.tuple #[.agg (hopC noHop), .int .i64 351]) /\ Below W.heap.size W w' := parse_bad [116, 97, 108, 108, 121, 48, 48] W (fun _ _ _ => parseW)
theorem text_0 (W : World) : Calls Tryz.prog 16 #[.agg (hopC ⟨zh, zh, 0, 1⟩)] W fun e w' => e = .returned (.tuple #[.string ⟨#[]⟩, .int .i64 2]) /\ Later W w' := text_no ⟨zh, zh, 0, 1⟩ ⟨zh_len, zh_len⟩ (by decide) W
theorem wrap_w (g : Nat) (W : World) (hr : Row W g 27 (hopC hopW)) : Calls Tryz.prog 9 #[.slice (some ⟨g, 0, none⟩) 1 1] W fun e w' => e = .returned (.tuple #[.string ⟨#[]⟩, .int .i64 2]) /\ Later W w' := wrap_one hopW hopW_wf paidW nextW g W hr
def zL : Array Value := #[Value.int .u8 0, Value.int .u8 0, Value.int .u8 0, Value.int .u8 0, Value.int .u8 0, Value.int .u8 0, Value.int .u8 0, Value.int .u8 0, Value.int .u8 0, Value.int .u8 0, Value.int .u8 0, Value.int .u8 0, Value.int .u8 0, Value.int .u8 0, Value.int .u8 0, Value.int .u8 0, Value.int .u8 0, Value.int .u8 0, Value.int .u8 0, Value.int .u8 0, Value.int .u8 0, Value.int .u8 0, Value.int .u8 0, Value.int .u8 0, Value.int .u8 0, Value.int .u8 0, Value.int .u8 0, Value.int .u8 0, Value.int .u8 0, Value.int .u8 0, Value.int .u8 0, Value.int .u8 0]
theorem zL_eq : hC zh = zL := by kernel_rfl
structure WP (H1 H2 Z NH HW E1 E2 EE IV FW : Array Value) (S : List (List Value)) : Prop where
 h1 : ∀ w : World, (Instr.build 25 #[(0, .int .u8 1)]).run Tryz.prog w = .ok (.agg H1) w
 h2 : ∀ w : World, (Instr.build 25 #[(0, .int .u8 2)]).run Tryz.prog w = .ok (.agg H2) w
 z : Z = zL
 hop : ∀ w : World, (Instr.build 27 #[(1, .agg H1), (2, .int .i64 1), (3, .int .i64 1)]).run Tryz.prog w = .ok (.agg HW) w
 hops : ∀ w : World, (Instr.buildSlice 22 1 #[(0, .agg HW)]).run Tryz.prog w = .ok (.slice (some ⟨w.heap.size, 0, none⟩) 1 1) (w.alloc (.cells HW 27))
 fee : ∀ w : World, (Instr.build 42 #[(0, .int .i64 1)]).run Tryz.prog w = .ok (.agg #[.int .i64 1, .int .i64 0]) w
 e1 : ∀ w : World, (Instr.build 44 #[(2, .agg #[.int .i64 1, .int .i64 0]), (3, .int .i64 6), (1, .agg H1)]).run Tryz.prog w = .ok (.agg E1) w
 e2 : ∀ w : World, (Instr.build 44 #[(2, .agg #[.int .i64 1, .int .i64 0]), (3, .int .i64 6), (1, .agg H2)]).run Tryz.prog w = .ok (.agg E2) w
 es : ∀ w : World, (Instr.buildSlice 40 2 #[(0, .agg E1), (1, .agg E2)]).run Tryz.prog w = .ok (.slice (some ⟨w.heap.size, 0, none⟩) 2 2) (w.alloc (.cells EE 44))
 inv : ∀ w : World, (Instr.build 51 #[(3, .int .i64 1)]).run Tryz.prog w = .ok (.agg IV) w
 wrap : ∀ w : World, Calls Tryz.prog 9 #[.slice (some ⟨w.heap.size, 0, none⟩) 1 1] (w.alloc (.cells HW 27)) fun e w' => e = .returned (.tuple #[.string ⟨#[]⟩, .int .i64 2]) /\ Later (w.alloc (.cells HW 27)) w'
 peel : ∀ w : World, Calls Tryz.prog 12 #[.agg #[Value.int .u8 0, Value.int .u8 0, Value.int .u8 0, Value.int .u8 0, Value.int .u8 0, Value.int .u8 0, Value.int .u8 0, Value.int .u8 0, Value.int .u8 0, Value.int .u8 0, Value.int .u8 0, Value.int .u8 0, Value.int .u8 0, Value.int .u8 0, Value.int .u8 0, Value.int .u8 0, Value.int .u8 0, Value.int .u8 0, Value.int .u8 0, Value.int .u8 0, Value.int .u8 0, Value.int .u8 0, Value.int .u8 0, Value.int .u8 0, Value.int .u8 0, Value.int .u8 0, Value.int .u8 0, Value.int .u8 0, Value.int .u8 0, Value.int .u8 0, Value.int .u8 0, Value.int .u8 0], .string ⟨#[]⟩] w fun e w' => e = .returned (.tuple #[.agg NH, .string ⟨#[]⟩, .int .i64 350]) /\ Below w.heap.size w w'
 plan : ∀ w : World, Calls Tryz.prog 14 #[.int .i64 100, .int .i64 50, .slice (some ⟨w.heap.size, 0, none⟩) 2 2] (w.alloc (.cells EE 44)) fun e w' => (∃ B c', e = .returned (.tuple #[.agg FW, .slice B 2 c', .int .i64 0]) /\ Recs 66 w' B S) /\ Below (w.heap.size + 1) (w.alloc (.cells EE 44)) w'
 parse : ∀ w : World, Calls Tryz.prog 18 #[.string ⟨#[116, 97, 108, 108, 121, 48, 48]⟩] w fun e w' => e = .returned (.tuple #[.agg NH, .int .i64 351]) /\ Below w.heap.size w w'
 text : ∀ w : World, Calls Tryz.prog 16 #[.agg IV] w fun e w' => e = .returned (.tuple #[.string ⟨#[]⟩, .int .i64 2]) /\ Later w w'
 aHop : ∀ w : World, (Instr.alloc 27 true (.tuple #[])).run Tryz.prog w = .ok (.pointer (some ⟨w.heap.size, 0, none⟩)) (w.alloc (.cells NH 27))
 aInv : ∀ w : World, (Instr.alloc 51 true (.tuple #[])).run Tryz.prog w = .ok (.pointer (some ⟨w.heap.size, 0, none⟩)) (w.alloc (.cells NH 51))
 nHop : ∀ w : World, ∃ w', (Instr.storeAt 27 (.pointer (some ⟨w.heap.size, 0, none⟩)) (.agg NH)).run Tryz.prog (w.alloc (.cells NH 27)) = .ok () w' /\ Later w w'
 nFst : ∀ w : World, ∃ w', (Instr.storeAt 27 (.pointer (some ⟨w.heap.size, 0, none⟩)) (.agg FW)).run Tryz.prog (w.alloc (.cells NH 27)) = .ok () w' /\ Row w' w.heap.size 27 FW /\ Later w w'
 nInv : ∀ w : World, ∃ w', (Instr.storeAt 51 (.pointer (some ⟨w.heap.size, 0, none⟩)) (.agg NH)).run Tryz.prog (w.alloc (.cells NH 51)) = .ok () w' /\ Later w w'
 fw : FW[64]? = some (.int .i64 101) /\ FW[65]? = some (.int .i64 56)
 s : S.length = 2 /\ ∀ l ∈ S, l[64]? = some (.int .i64 100) /\ l[65]? = some (.int .i64 50)
theorem newInv (w : World) {h : Hop} (hw : h.wf) : ∃ w', (Instr.storeAt 51 (.pointer (some ⟨w.heap.size, 0, none⟩)) (.agg (hopC h))).run Tryz.prog (w.alloc (.cells (hopC noHop) 51)) = .ok () w' /\ Row w' w.heap.size 51 (hopC h) /\ Later w w' := by
 obtain ⟨w', h1, h2, h3⟩ := storeInv noHop_wf hw (Row.new w 51 (hopC noHop))
 exact ⟨w', h1, h2, Below.grown (below_new w _) h3 (by simp) (fun j e => by cases e; exact Nat.le_refl _)⟩
theorem firstW_wf : firstW.wf := ⟨zh_len, hash1_len _⟩
theorem wp_all : ∃ H1 H2 Z NH HW E1 E2 EE IV FW S, WP H1 H2 Z NH HW E1 E2 EE IV FW S :=
 ⟨hC (hash1 1), hC (hash1 2), hC zh, hopC noHop, hopC hopW, edgeC (edgeW 1), edgeC (edgeW 2), ([edgeW 1, edgeW 2].map edgeL).flatten.toArray, hopC ⟨zh, zh, 0, 1⟩, hopC firstW, stepsW.map hopL,
  ⟨bHash1, bHash2, zL_eq, bHopW, bHopsW, bFeeW, bEdge1, bEdge2, bEdges, bInvW, fun w => wrap_w _ _ (Row.new w _ _), fun w => by have h := peel_nil w; rw [zL_eq] at h; exact h,
   fun w => by
    have h := plan_two (some ⟨w.heap.size, 0, none⟩) 2 (w.alloc (.cells ([edgeW 1, edgeW 2].map edgeL).flatten.toArray 44)) (Recs.row (Row.new w _ _) (fun l hl => by obtain ⟨e, he, rfl⟩ := List.mem_map.1 hl; exact edgeL_len (by simp at he; rcases he with rfl | rfl <;> exact edgeW_wf _)) (fun j v hv => by rw [List.getElem?_toArray]; exact hv)) (Nat.le_refl _)
    rw [World.size_alloc] at h
    exact h,
   parse_00, text_0, allocHop, allocInv, fun w => by obtain ⟨w', h1, _, h3⟩ := newHop w noHop_wf; exact ⟨w', h1, h3⟩, fun w => newHop w firstW_wf, fun w => by obtain ⟨w', h1, _, h3⟩ := newInv w noHop_wf; exact ⟨w', h1, h3⟩,
   ⟨hopC_amt firstW_wf, hopC_exp firstW_wf⟩, rfl, fun l hl => by
    obtain ⟨h, hh, rfl⟩ := List.mem_map.1 hl
    have hw : h.wf /\ h.amt = 100 /\ h.exp = 50 := by
     simp only [stepsW, List.mem_cons, List.not_mem_nil, or_false] at hh
     rcases hh with rfl | rfl
     ·exact ⟨⟨zh_len, hash1_len _⟩, rfl, rfl⟩
     ·exact ⟨⟨zh_len, zh_len⟩, rfl, rfl⟩
    refine ⟨?_, ?_⟩
    ·rw [Array.getElem?_toList, hopC_amt hw.1, hw.2.1]
    ·rw [Array.getElem?_toList, hopC_exp hw.1, hw.2.2]⟩⟩
section
variable {P : Program} {ops : Array Oper} {rest : List Oper} {o : Oper} {a : Act} {w : World} {Q : Exit -> Act -> World -> Prop}
theorem wpList_buildSl (hgd : o.guard = none) (T : TypeId) (n : Nat) (parts : Array (Nat × Operand)) (ho : o.op = .buildSlice T n parts) (vs : Array (Nat × Value)) (hp : (parts.map fun (i, x) => (i, a.eval x)) = vs)
  {v : Value} {w' : World} (hr : (Instr.buildSlice T n vs).run P w = .ok v w')
  (h : wpList P ops Q rest (a.put o.dst v) w') : wpList P ops Q (o :: rest) a w :=
 wpList_plain hgd fun _ hK => by
  unfold Oper.wp execOp
  simp only [ho, Sem.run_bind, Sem.run_pure, Result.andThen_ok, hp, hr]
  exact hK _ _ h
end
theorem works_yes (w : World) : Calls Tryz.prog 8 #[] w fun e w' => e = .returned (.bool true) /\ Below w.heap.size w w' := by
 refine Calls.post fun Φ HΦ => ?_
 obtain ⟨H1, H2, Z, NH, HW, E1, E2, EE, IV, FW, S, wp⟩ := wp_all
 have WP := Lib.hid wp
 clear wp
 have hsm : Tryz.underlying22 = Tryz.underlying22 := rfl
 clear hsm
 have L1 := below_new w (.cells #[] 27)
 have hb0 : ∀ w : World, (Instr.buildSlice 22 0 #[]).run Tryz.prog w = .ok (.slice (some ⟨w.heap.size, 0, none⟩) 0 0) (w.alloc (.cells #[] 27)) := fun w => by kernel_rfl
 go_enter Tryz.func8, Tryz.ntmps8
 go_upto_region 2 with (first
  | (go_at_call 9; refine (wrap_nil _ _ _).mono ?_; rintro e w1 ⟨rfl, h1⟩; obtain rfl := h1)
  | (guard_target =~ wpList _ _ _ (_ :: _) _ _; refine wpList_buildSl rfl 22 0 _ rfl #[] rfl (hb0 _) ?_)
  | fail)
 generalize w.alloc (.cells #[] 27) = w1 at *
 clear hb0
 go_upto_region 3 with (first
  | (guard_target =~ wpList _ _ _ (_ :: _) _ _; refine wpList_build rfl 25 _ rfl #[(0, .int .u8 1)] (by simp only [List.map_toArray, List.map_cons, List.map_nil]; rfl) (WP.out.h1 _) ?_)
  | (guard_target =~ wpList _ _ _ (_ :: _) _ _; refine wpList_build rfl 27 _ rfl #[(1, .agg H1), (2, .int .i64 1), (3, .int .i64 1)] (by simp only [List.map_toArray, List.map_cons, List.map_nil]; rfl) (WP.out.hop _) ?_)
  | (guard_target =~ wpList _ _ _ (_ :: _) _ _; refine wpList_buildSl rfl 22 1 _ rfl #[(0, .agg HW)] (by simp only [List.map_toArray, List.map_cons, List.map_nil]; rfl) (WP.out.hops _) ?_)
  | (go_at_call 9; refine (WP.out.wrap w1).mono ?_; rintro e w2 ⟨rfl, L2⟩)
  | fail)
 have LA : Later w1 (w1.alloc (.cells HW 27)) := below_new w1 _
 have L12 : Below w.heap.size w w2 := L1.trans ((LA.step L2).below.mono L1.size)
 clear LA
 clear L1 L2
 go_upto_region 4 with (first
  | (go_at_call 12; refine (WP.out.peel w2).mono ?_; rintro e w3 ⟨rfl, L3⟩; obtain ⟨w4, hs4, L4⟩ := WP.out.nHop w3)
  | (with_reducible refine wpList_alloc rfl 27 rfl (WP.out.aHop _) ?_)
  | (guard_target =~ wpList _ _ _ (_ :: _) _ _; refine wpList_store rfl 27 (.tmp 5) (.tmp 30) rfl (.pointer (some ⟨w3.heap.size, 0, none⟩)) (.agg NH) rfl rfl hs4 ?_)
  | fail)
 have L14 : Below w.heap.size w w4 := L12.trans ((Below.trans L3 (L4.below.mono L3.size)).mono L12.size)
 clear L12 L3 L4 hs4
 go_upto_region 5 with (first
  | (guard_target =~ wpList _ _ _ (_ :: _) _ _; refine wpList_build rfl 42 _ rfl #[(0, .int .i64 1)] (by simp only [List.map_toArray, List.map_cons, List.map_nil]; rfl) (WP.out.fee _) ?_; simp only [Act.put, List.setIfInBounds_toArray, List.set_cons_zero, List.set_cons_succ])
  | (guard_target =~ wpList _ _ _ (_ :: _) _ _; refine wpList_build rfl 25 _ rfl #[(0, .int .u8 1)] (by simp only [List.map_toArray, List.map_cons, List.map_nil]; rfl) (WP.out.h1 _) ?_; simp only [Act.put, List.setIfInBounds_toArray, List.set_cons_zero, List.set_cons_succ])
  | (guard_target =~ wpList _ _ _ (_ :: _) _ _; refine wpList_build rfl 25 _ rfl #[(0, .int .u8 2)] (by simp only [List.map_toArray, List.map_cons, List.map_nil]; rfl) (WP.out.h2 _) ?_; simp only [Act.put, List.setIfInBounds_toArray, List.set_cons_zero, List.set_cons_succ])
  | (guard_target =~ wpList _ _ _ (_ :: _) _ _; refine wpList_build rfl 44 #[(2, .tmp 34), (3, .const (.int .i64 6)), (1, .tmp 35)] rfl #[(2, .agg #[.int .i64 1, .int .i64 0]), (3, .int .i64 6), (1, .agg H1)] (by simp only [List.map_toArray, List.map_cons, List.map_nil]; rfl) (WP.out.e1 _) ?_; simp only [Act.put, List.setIfInBounds_toArray, List.set_cons_zero, List.set_cons_succ])
  | (guard_target =~ wpList _ _ _ (_ :: _) _ _; refine wpList_build rfl 44 #[(2, .tmp 37), (3, .const (.int .i64 6)), (1, .tmp 38)] rfl #[(2, .agg #[.int .i64 1, .int .i64 0]), (3, .int .i64 6), (1, .agg H2)] (by simp only [List.map_toArray, List.map_cons, List.map_nil]; rfl) (WP.out.e2 _) ?_; simp only [Act.put, List.setIfInBounds_toArray, List.set_cons_zero, List.set_cons_succ])
  | (guard_target =~ wpList _ _ _ (_ :: _) _ _; refine wpList_buildSl rfl 40 2 _ rfl #[(0, .agg E1), (1, .agg E2)] (by simp only [List.map_toArray, List.map_cons, List.map_nil]; rfl) (WP.out.es _) ?_)
  | (go_at_call 14; refine (WP.out.plan w4).mono ?_; rintro e w5 ⟨⟨B, c', rfl, hR5⟩, L5⟩; obtain ⟨w6, hs6, k6, L6⟩ := WP.out.nFst w5)
  | (with_reducible refine wpList_alloc rfl 27 rfl (WP.out.aHop _) ?_)
  | (guard_target =~ wpList _ _ _ (_ :: _) _ _; refine wpList_store rfl 27 (.tmp 8) (.tmp 42) rfl (.pointer (some ⟨w5.heap.size, 0, none⟩)) (.agg FW) rfl rfl hs6 ?_)
  | fail)
 have hR6 := hR5.later L6
 obtain ⟨g6, hg6⟩ : ∃ g, g = w5.heap.size := ⟨_, rfl⟩
 rw [<- hg6] at k6 ⊢
 have L16 : Below w.heap.size w w6 := by
  have h1 : Below w4.heap.size w4 w5 := (below_new w4 (.cells EE 44)).trans (L5.mono (by omega))
  exact L14.trans ((Below.trans h1 (L6.below.mono h1.size)).mono L14.size)
 clear hR5 L5 L6 hs6 L14 hg6
 go_upto_region 7 with (first
  | (go_at_call 18; refine (WP.out.parse w6).mono ?_; rintro e w7 ⟨rfl, L7⟩; obtain ⟨w8, hs8, L8⟩ := WP.out.nInv w7)
  | (with_reducible refine wpList_alloc rfl 51 rfl (WP.out.aInv _) ?_)
  | (guard_target =~ wpList _ _ _ (_ :: _) _ _; refine wpList_store rfl 51 (.tmp 11) (.tmp 47) rfl (.pointer (some ⟨w7.heap.size, 0, none⟩)) (.agg NH) rfl rfl hs8 ?_)
  | (guard_target =~ wpList _ _ _ (_ :: _) _ _; refine wpList_build rfl 51 _ rfl #[(3, .int .i64 1)] (by simp only [List.map_toArray, List.map_cons, List.map_nil]; rfl) (WP.out.inv _) ?_)
  | (go_at_call 16; refine (WP.out.text w8).mono ?_; rintro e w9 ⟨rfl, L9⟩)
  | fail)
 have L69 : Later w6 w9 := (Later.step L7 L8).step L9
 have k9 := k6.later L69
 have hR9 := hR6.later L69
 have L19 : Below w.heap.size w w9 := L16.trans (L69.below.mono L16.size)
 clear L7 L8 L9 hs8 k6 hR6 L16 L69
 obtain ⟨hS2, hSl⟩ := WP.out.s
 obtain ⟨hf64, hf65⟩ := WP.out.fw
 obtain ⟨bB, oB, rfl, h0⟩ := hR9.at_ (k := 0) (by omega)
 have h1 : w9.rangeAt bB (oB + 1 * 66) (S[1]'(by omega)) := by
  obtain ⟨b', o', e', h⟩ := hR9.at_ (k := 1) (by omega)
  injection e' with e'
  injection e' with e1 e2
  subst e1 e2
  exact h
 have c064 : w9.cell? ⟨bB, oB + 0 * 66 + 64, none⟩ = some (.int .i64 100) := h0 64 _ (hSl _ (List.getElem_mem _)).1
 have c065 : w9.cell? ⟨bB, oB + 0 * 66 + 65, none⟩ = some (.int .i64 50) := h0 65 _ (hSl _ (List.getElem_mem _)).2
 have c164 : w9.cell? ⟨bB, oB + 1 * 66 + 64, none⟩ = some (.int .i64 100) := h1 64 _ (hSl _ (List.getElem_mem _)).1
 have c165 : w9.cell? ⟨bB, oB + 1 * 66 + 65, none⟩ = some (.int .i64 50) := h1 65 _ (hSl _ (List.getElem_mem _)).2
 have f64 : w9.cell? ⟨g6, 64, none⟩ = some (.int .i64 101) := (k9.cell 64).trans hf64
 have f65 : w9.cell? ⟨g6, 65, none⟩ = some (.int .i64 56) := (k9.cell 65).trans hf65
 have up : ∀ {b k : Nat} {v : Value}, w9.cell? ⟨b, k, none⟩ = some v -> ∀ W, Later w9 W -> W.cell? ⟨b, k, none⟩ = some v := fun h W hL => Later.cell hL h
 have c064 := up c064
 have c065 := up c065
 have c164 := up c164
 have c165 := up c165
 have f64 := up f64
 have f65 := up f65
 clear h0 h1 hR9 k9 hS2 hSl hf64 hf65 WP up
 refine wp_region_seqL [Pr.eq (.int .i64 2), Pr.eq (.int .i64 2), Pr.eq (.bool true), Pr.eq (.bool true), Pr.eq (.int .i64 2), Pr.eq (.int .i64 2), Pr.eq (.bool true), Pr.eq (.bool true), Pr.eq (.bool true), Pr.eq (.int .i64 350), Pr.eq (.int .i64 350), Pr.eq (.bool true), Pr.eq (.bool true), Pr.eq (.bool true), Pr.eq (.int .i64 0), Pr.eq (.int .i64 0), Pr.eq (.bool true), Pr.eq (.bool true), Pr.eq (.bool true), Pr.eq (.pointer (some ⟨g6, 64, none⟩)), Pr.eq (.int .i64 101), Pr.eq (.bool true), Pr.eq (.bool true), Pr.eq (.bool true), Pr.eq (.pointer (some ⟨g6, 65, none⟩)), Pr.eq (.int .i64 56), Pr.eq (.bool true), Pr.eq (.bool true), Pr.eq (.bool true), Pr.eq (.slice (some ⟨bB, oB, none⟩) 2 c'), Pr.eq (.int .i64 (2 : Int)), Pr.eq (.bool true), Pr.eq (.bool true), Pr.eq (.bool true), Pr.eq (.slice (some ⟨bB, oB, none⟩) 2 c'), Pr.eq (.pointer (some ⟨bB, oB + 0 * 66, none⟩)), Pr.eq (.pointer (some ⟨bB, oB + 0 * 66 + 64, none⟩)), Pr.eq (.int .i64 100), Pr.eq (.bool true), Pr.eq (.bool true), Pr.eq (.bool true), Pr.eq (.slice (some ⟨bB, oB, none⟩) 2 c'), Pr.eq (.pointer (some ⟨bB, oB + 0 * 66, none⟩)), Pr.eq (.pointer (some ⟨bB, oB + 0 * 66 + 65, none⟩)), Pr.eq (.int .i64 50), Pr.eq (.bool true), Pr.eq (.bool true), Pr.eq (.bool true), Pr.eq (.slice (some ⟨bB, oB, none⟩) 2 c'), Pr.eq (.pointer (some ⟨bB, oB + 1 * 66, none⟩)), Pr.eq (.pointer (some ⟨bB, oB + 1 * 66 + 64, none⟩)), Pr.eq (.int .i64 100), Pr.eq (.bool true), Pr.eq (.bool true), Pr.eq (.bool true), Pr.eq (.slice (some ⟨bB, oB, none⟩) 2 c'), Pr.eq (.pointer (some ⟨bB, oB + 1 * 66, none⟩)), Pr.eq (.pointer (some ⟨bB, oB + 1 * 66 + 65, none⟩)), Pr.eq (.int .i64 50), Pr.eq (.bool true), Pr.eq (.bool true), Pr.eq (.bool true), Pr.eq (.int .i64 351), Pr.eq (.int .i64 351), Pr.eq (.bool true), Pr.eq (.bool true), Pr.eq (.bool true), Pr.eq (.int .i64 2), Pr.eq (.int .i64 2), Pr.eq (.bool true), Pr.eq (.bool true), Pr.eq (.bool true)] (by kernel_rfl) (by kernel_rfl) (by kernel_rfl) ⟨?_, ?_, ?_, ?_, ?_, ?_, ?_, ?_, ?_, ?_, ?_, ?_, ?_, ?_, ?_, ?_, ?_, ?_, ?_, ?_, ?_, ?_, ?_, ?_, ?_, ?_, ?_, ?_, ?_, ?_, ?_, ?_, ?_, ?_, ?_, ?_, ?_, ?_, ?_, ?_, ?_, ?_, ?_, ?_, ?_, ?_, ?_, ?_, ?_, ?_, ?_, ?_, ?_, ?_, ?_, ?_, ?_, ?_, ?_, ?_, ?_, ?_, ?_, ?_, ?_, ?_, ?_, ?_, ?_, ?_, ?_, ?_, trivial⟩ ?_
 ·exact fun ac W hL he => stepOk_want rfl (op_move rfl (he.k 2))
 ·intro ac W hL he; refine stepOk_want rfl ?_; have e0 : ac.eval (.tmp 54) = .int .i64 2 := (he.g 0 54); exact op_callF (vs := #[.int .i64 2]) rfl (by simp only [List.map_toArray, List.map_cons, List.map_nil, e0]) (enters_of Tryz.func11 (by kernel_rfl) rfl) (((rnum_any _ W)).mono fun e W' ⟨he', hw'⟩ => ⟨_, he', hw' ▸ Later.refl _, rfl⟩)
 ·exact fun ac W hL he => stepOk_want rfl (op_binOp rfl (he.g 1 55) rfl (by kernel_rfl) (by kernel_rfl) rfl)
 ·exact fun ac W hL he => stepOk_want rfl (op_move rfl (he.g 2 56))
 ·exact fun ac W hL he => stepOk_yes (j := 3) (t := 57) (b := true) rfl rfl (he.g 3 57) (op_move rfl (he.k 4))
 ·intro ac W hL he; refine stepOk_yes (j := 3) (t := 57) (b := true) rfl rfl (he.g 3 57) ?_; have e0 : ac.eval (.tmp 58) = .int .i64 2 := (he.g 4 58); exact op_callF (vs := #[.int .i64 2]) rfl (by simp only [List.map_toArray, List.map_cons, List.map_nil, e0]) (enters_of Tryz.func11 (by kernel_rfl) rfl) (((rnum_any _ W)).mono fun e W' ⟨he', hw'⟩ => ⟨_, he', hw' ▸ Later.refl _, rfl⟩)
 ·exact fun ac W hL he => stepOk_yes (j := 3) (t := 57) (b := true) rfl rfl (he.g 3 57) (op_binOp rfl (he.g 5 59) rfl (by kernel_rfl) (by kernel_rfl) rfl)
 ·exact fun ac W hL he => stepOk_want rfl (op_pick (b := true) rfl (he.g 3 57) (he.g 6 60))
 ·exact fun ac W hL he => stepOk_want rfl (op_move rfl (he.g 7 61))
 ·exact fun ac W hL he => stepOk_yes (j := 8) (t := 62) (b := true) rfl rfl (he.g 8 62) (op_move rfl (he.k 7))
 ·intro ac W hL he; refine stepOk_yes (j := 8) (t := 62) (b := true) rfl rfl (he.g 8 62) ?_; have e0 : ac.eval (.tmp 63) = .int .i64 350 := (he.g 9 63); exact op_callF (vs := #[.int .i64 350]) rfl (by simp only [List.map_toArray, List.map_cons, List.map_nil, e0]) (enters_of Tryz.func11 (by kernel_rfl) rfl) (((rnum_any _ W)).mono fun e W' ⟨he', hw'⟩ => ⟨_, he', hw' ▸ Later.refl _, rfl⟩)
 ·exact fun ac W hL he => stepOk_yes (j := 8) (t := 62) (b := true) rfl rfl (he.g 8 62) (op_binOp rfl (he.g 10 64) rfl (by kernel_rfl) (by kernel_rfl) rfl)
 ·exact fun ac W hL he => stepOk_want rfl (op_pick (b := true) rfl (he.g 8 62) (he.g 11 65))
 ·exact fun ac W hL he => stepOk_want rfl (op_move rfl (he.g 12 66))
 ·exact fun ac W hL he => stepOk_yes (j := 13) (t := 67) (b := true) rfl rfl (he.g 13 67) (op_move rfl (he.k 10))
 ·intro ac W hL he; refine stepOk_yes (j := 13) (t := 67) (b := true) rfl rfl (he.g 13 67) ?_; have e0 : ac.eval (.tmp 68) = .int .i64 0 := (he.g 14 68); exact op_callF (vs := #[.int .i64 0]) rfl (by simp only [List.map_toArray, List.map_cons, List.map_nil, e0]) (enters_of Tryz.func11 (by kernel_rfl) rfl) (((rnum_any _ W)).mono fun e W' ⟨he', hw'⟩ => ⟨_, he', hw' ▸ Later.refl _, rfl⟩)
 ·exact fun ac W hL he => stepOk_yes (j := 13) (t := 67) (b := true) rfl rfl (he.g 13 67) (op_binOp rfl (he.g 15 69) rfl (by kernel_rfl) (by kernel_rfl) rfl)
 ·exact fun ac W hL he => stepOk_want rfl (op_pick (b := true) rfl (he.g 13 67) (he.g 16 70))
 ·exact fun ac W hL he => stepOk_want rfl (op_move rfl (he.g 17 71))
 ·exact fun ac W hL he => stepOk_yes (j := 18) (t := 72) (b := true) rfl rfl (he.g 18 72) (op_fieldAddr rfl (he.k 8) fHop2 rfl)
 ·exact fun ac W hL he => stepOk_yes (j := 18) (t := 72) (b := true) rfl rfl (he.g 18 72) (op_load rfl (he.g 19 73) (ldI64 (f64 W hL)) rfl)
 ·exact fun ac W hL he => stepOk_yes (j := 18) (t := 72) (b := true) rfl rfl (he.g 18 72) (op_binOp rfl (he.g 20 74) rfl (by kernel_rfl) (by kernel_rfl) rfl)
 ·exact fun ac W hL he => stepOk_want rfl (op_pick (b := true) rfl (he.g 18 72) (he.g 21 75))
 ·exact fun ac W hL he => stepOk_want rfl (op_move rfl (he.g 22 76))
 ·exact fun ac W hL he => stepOk_yes (j := 23) (t := 77) (b := true) rfl rfl (he.g 23 77) (op_fieldAddr rfl (he.k 8) fHop3 rfl)
 ·exact fun ac W hL he => stepOk_yes (j := 23) (t := 77) (b := true) rfl rfl (he.g 23 77) (op_load rfl (he.g 24 78) (ldI64 (f65 W hL)) rfl)
 ·exact fun ac W hL he => stepOk_yes (j := 23) (t := 77) (b := true) rfl rfl (he.g 23 77) (op_binOp rfl (he.g 25 79) rfl (by kernel_rfl) (by kernel_rfl) rfl)
 ·exact fun ac W hL he => stepOk_want rfl (op_pick (b := true) rfl (he.g 23 77) (he.g 26 80))
 ·exact fun ac W hL he => stepOk_want rfl (op_move rfl (he.g 27 81))
 ·exact fun ac W hL he => stepOk_yes (j := 28) (t := 82) (b := true) rfl rfl (he.g 28 82) (op_move rfl (he.k 9))
 ·exact fun ac W hL he => stepOk_yes (j := 28) (t := 82) (b := true) rfl rfl (he.g 28 82) (op_len Tryz.underlying22 rfl (he.g 29 83) rfl)
 ·exact fun ac W hL he => stepOk_yes (j := 28) (t := 82) (b := true) rfl rfl (he.g 28 82) (op_binOp rfl (he.g 30 84) rfl (by kernel_rfl) (by kernel_rfl) rfl)
 ·exact fun ac W hL he => stepOk_want rfl (op_pick (b := true) rfl (he.g 28 82) (he.g 31 85))
 ·exact fun ac W hL he => stepOk_want rfl (op_move rfl (he.g 32 86))
 ·exact fun ac W hL he => stepOk_yes (j := 33) (t := 87) (b := true) rfl rfl (he.g 33 87) (op_move rfl (he.k 9))
 ·exact fun ac W hL he => stepOk_yes (j := 33) (t := 87) (b := true) rfl rfl (he.g 33 87) (op_idx rfl (he.g 34 88) rfl (idxHop W (by decide)) rfl)
 ·exact fun ac W hL he => stepOk_yes (j := 33) (t := 87) (b := true) rfl rfl (he.g 33 87) (op_fieldAddr rfl (he.g 35 89) fHop2 rfl)
 ·exact fun ac W hL he => stepOk_yes (j := 33) (t := 87) (b := true) rfl rfl (he.g 33 87) (op_load rfl (he.g 36 90) (ldI64 (c064 W hL)) rfl)
 ·exact fun ac W hL he => stepOk_yes (j := 33) (t := 87) (b := true) rfl rfl (he.g 33 87) (op_binOp rfl (he.g 37 91) rfl (by kernel_rfl) (by kernel_rfl) rfl)
 ·exact fun ac W hL he => stepOk_want rfl (op_pick (b := true) rfl (he.g 33 87) (he.g 38 92))
 ·exact fun ac W hL he => stepOk_want rfl (op_move rfl (he.g 39 93))
 ·exact fun ac W hL he => stepOk_yes (j := 40) (t := 94) (b := true) rfl rfl (he.g 40 94) (op_move rfl (he.k 9))
 ·exact fun ac W hL he => stepOk_yes (j := 40) (t := 94) (b := true) rfl rfl (he.g 40 94) (op_idx rfl (he.g 41 95) rfl (idxHop W (by decide)) rfl)
 ·exact fun ac W hL he => stepOk_yes (j := 40) (t := 94) (b := true) rfl rfl (he.g 40 94) (op_fieldAddr rfl (he.g 42 96) fHop3 rfl)
 ·exact fun ac W hL he => stepOk_yes (j := 40) (t := 94) (b := true) rfl rfl (he.g 40 94) (op_load rfl (he.g 43 97) (ldI64 (c065 W hL)) rfl)
 ·exact fun ac W hL he => stepOk_yes (j := 40) (t := 94) (b := true) rfl rfl (he.g 40 94) (op_binOp rfl (he.g 44 98) rfl (by kernel_rfl) (by kernel_rfl) rfl)
 ·exact fun ac W hL he => stepOk_want rfl (op_pick (b := true) rfl (he.g 40 94) (he.g 45 99))
 ·exact fun ac W hL he => stepOk_want rfl (op_move rfl (he.g 46 100))
 ·exact fun ac W hL he => stepOk_yes (j := 47) (t := 101) (b := true) rfl rfl (he.g 47 101) (op_move rfl (he.k 9))
 ·exact fun ac W hL he => stepOk_yes (j := 47) (t := 101) (b := true) rfl rfl (he.g 47 101) (op_idx rfl (he.g 48 102) rfl (idxHop W (by decide)) rfl)
 ·exact fun ac W hL he => stepOk_yes (j := 47) (t := 101) (b := true) rfl rfl (he.g 47 101) (op_fieldAddr rfl (he.g 49 103) fHop2 rfl)
 ·exact fun ac W hL he => stepOk_yes (j := 47) (t := 101) (b := true) rfl rfl (he.g 47 101) (op_load rfl (he.g 50 104) (ldI64 (c164 W hL)) rfl)
 ·exact fun ac W hL he => stepOk_yes (j := 47) (t := 101) (b := true) rfl rfl (he.g 47 101) (op_binOp rfl (he.g 51 105) rfl (by kernel_rfl) (by kernel_rfl) rfl)
 ·exact fun ac W hL he => stepOk_want rfl (op_pick (b := true) rfl (he.g 47 101) (he.g 52 106))
 ·exact fun ac W hL he => stepOk_want rfl (op_move rfl (he.g 53 107))
 ·exact fun ac W hL he => stepOk_yes (j := 54) (t := 108) (b := true) rfl rfl (he.g 54 108) (op_move rfl (he.k 9))
 ·exact fun ac W hL he => stepOk_yes (j := 54) (t := 108) (b := true) rfl rfl (he.g 54 108) (op_idx rfl (he.g 55 109) rfl (idxHop W (by decide)) rfl)
 ·exact fun ac W hL he => stepOk_yes (j := 54) (t := 108) (b := true) rfl rfl (he.g 54 108) (op_fieldAddr rfl (he.g 56 110) fHop3 rfl)
 ·exact fun ac W hL he => stepOk_yes (j := 54) (t := 108) (b := true) rfl rfl (he.g 54 108) (op_load rfl (he.g 57 111) (ldI64 (c165 W hL)) rfl)
 ·exact fun ac W hL he => stepOk_yes (j := 54) (t := 108) (b := true) rfl rfl (he.g 54 108) (op_binOp rfl (he.g 58 112) rfl (by kernel_rfl) (by kernel_rfl) rfl)
 ·exact fun ac W hL he => stepOk_want rfl (op_pick (b := true) rfl (he.g 54 108) (he.g 59 113))
 ·exact fun ac W hL he => stepOk_want rfl (op_move rfl (he.g 60 114))
 ·exact fun ac W hL he => stepOk_yes (j := 61) (t := 115) (b := true) rfl rfl (he.g 61 115) (op_move rfl (he.k 12))
 ·intro ac W hL he; refine stepOk_yes (j := 61) (t := 115) (b := true) rfl rfl (he.g 61 115) ?_; have e0 : ac.eval (.tmp 116) = .int .i64 351 := (he.g 62 116); exact op_callF (vs := #[.int .i64 351]) rfl (by simp only [List.map_toArray, List.map_cons, List.map_nil, e0]) (enters_of Tryz.func11 (by kernel_rfl) rfl) (((rnum_any _ W)).mono fun e W' ⟨he', hw'⟩ => ⟨_, he', hw' ▸ Later.refl _, rfl⟩)
 ·exact fun ac W hL he => stepOk_yes (j := 61) (t := 115) (b := true) rfl rfl (he.g 61 115) (op_binOp rfl (he.g 63 117) rfl (by kernel_rfl) (by kernel_rfl) rfl)
 ·exact fun ac W hL he => stepOk_want rfl (op_pick (b := true) rfl (he.g 61 115) (he.g 64 118))
 ·exact fun ac W hL he => stepOk_want rfl (op_move rfl (he.g 65 119))
 ·exact fun ac W hL he => stepOk_yes (j := 66) (t := 120) (b := true) rfl rfl (he.g 66 120) (op_move rfl (he.k 14))
 ·intro ac W hL he; refine stepOk_yes (j := 66) (t := 120) (b := true) rfl rfl (he.g 66 120) ?_; have e0 : ac.eval (.tmp 121) = .int .i64 2 := (he.g 67 121); exact op_callF (vs := #[.int .i64 2]) rfl (by simp only [List.map_toArray, List.map_cons, List.map_nil, e0]) (enters_of Tryz.func11 (by kernel_rfl) rfl) (((rnum_any _ W)).mono fun e W' ⟨he', hw'⟩ => ⟨_, he', hw' ▸ Later.refl _, rfl⟩)
 ·exact fun ac W hL he => stepOk_yes (j := 66) (t := 120) (b := true) rfl rfl (he.g 66 120) (op_binOp rfl (he.g 68 122) rfl (by kernel_rfl) (by kernel_rfl) rfl)
 ·exact fun ac W hL he => stepOk_want rfl (op_pick (b := true) rfl (he.g 66 120) (he.g 69 123))
 ·exact fun ac W hL he => stepOk_want rfl (op_assign rfl (he.g 70 124))
 intro xs W hL hx
 have v71 : xs 71 = .bool true := hx 71 (by decide)
 simp only [List.append_eq, List.cons_append, List.nil_append, putL, Nat.reduceAdd, Act.put, List.setIfInBounds_toArray, List.set_cons_succ, List.set_cons_zero]
 rw [v71]
 clear hx
 go_wp2_with fail
 exact HΦ.out _ _ ⟨rfl, L19.trans (Below.mono hL L19.size)⟩
section
variable {P : Program}
theorem eqFields_cons (d : Nat) (xs ys : Array Value) (f : Field) (fs : List Field) {T : TypeId} {off : Nat} {a c : Value} {b r : Bool} {w : World} (hn : decide (f.name = "_") = false) (hT : f.type = T) (ho : f.offset = off) (h1 : ∀ w, (part T xs off).run P w = .ok a w) (h2 : ∀ w, (part T ys off).run P w = .ok c w) (he : ∀ w, (Op.equalIn d T a c).run P w = .ok b w) (hr : (Op.eqFields d xs ys fs).run P w = .ok r w) : (Op.eqFields d xs ys (f :: fs)).run P w = .ok (b && r) w := by
 subst hT ho
 unfold Op.eqFields
 rw [if_pos (of_decide_eq_false hn)]
 simp only [Sem.run_bind, h1, h2, he, Result.andThen_ok]
 cases b
 ·simp
 ·simpa using hr
theorem eqFields_nil (d : Nat) (xs ys : Array Value) (w : World) : (Op.eqFields d xs ys []).run P w = .ok true w := by simp [Op.eqFields]
end
theorem part64 {cs : Array Value} {off : Nat} {v : Value} (h : cs[off]? = some v) (w : World) : (part 2 cs off).run Tryz.prog w = .ok v w := by
 unfold part
 go_simp
theorem partHash0 (cs : Array Value) (off : Nat) (w : World) : (part 25 cs off).run Tryz.prog w = .ok (.agg (cs.extract off (off + 32))) w := by
 unfold part
 go_simp
theorem extract_of {cs vs : Array Value} {o n : Nat} (hn : vs.size = n) (hc : o + n <= cs.size) (h : ∀ j, j < n -> cs[o + j]? = vs[j]?) : cs.extract o (o + n) = vs := by
 apply Array.ext_getElem?
 intro j
 rw [Array.getElem?_extract]
 by_cases hj : j < n
 ·rw [if_pos (by omega)]
  exact h j hj
 ·rw [if_neg (by omega), Array.getElem?_eq_none (by omega)]
theorem partHash {cs : Array Value} {off : Nat} {h : List UInt8} (hl : h.length = 32) (hs : off + 32 <= cs.size) (hg : ∀ i, i < 32 -> cs[off + i]? = (hC h)[i]?) (w : World) : (part 25 cs off).run Tryz.prog w = .ok (.agg (hC h)) w := by
 rw [partHash0, extract_of (hC_size _ (Nat.le_of_eq hl)) hs hg]
noncomputable def fld (T : TypeId) (i : Nat) : Field := (Tryz.prog.fieldsOf T).toList.getD i default
theorem eqHash (d : Nat) (a b : List UInt8) (ha : a.length = 32) (hb : b.length = 32) (w : World) : (Op.equalIn (d + 2) 25 (.agg (hC a)) (.agg (hC b))).run Tryz.prog w = .ok (a == b) w := by
 rw [hC_cells a ha, hC_cells b hb, run_equalIn_bytes w d 25 5 32 Tryz.underlying25 Tryz.underlying5 (fun w => by kernel_rfl) a b ha hb]
theorem eq64 (d : Nat) (a b : Int) (w : World) : (Op.equalIn (d + 1) 2 (.int .i64 a) (.int .i64 b)).run Tryz.prog w = .ok (a == b) w := run_equalIn_int w _ _ _ _ _ _ Tryz.underlying2
theorem flds_hop : (Tryz.prog.fieldsOf 27).toList = [fld 27 0, fld 27 1, fld 27 2, fld 27 3] := by kernel_rfl
theorem partHopK {h : Hop} (hw : h.wf) (w : World) : (part 25 (hopC h) 0).run Tryz.prog w = .ok (.agg (hC h.key)) w :=
 partHash hw.1 (by rw [hopC_size hw]; decide) (fun i hi => by rw [Nat.zero_add]; exact hopC_key hw i hi) w
theorem partHopN {h : Hop} (hw : h.wf) (w : World) : (part 25 (hopC h) 32).run Tryz.prog w = .ok (.agg (hC h.next)) w :=
 partHash hw.2 (by rw [hopC_size hw]; decide) (fun i hi => hopC_next hw i hi) w
def hEq (h h' : Hop) : Bool := (h.key == h'.key) && ((h.next == h'.next) && ((h.amt == h'.amt) && ((h.exp == h'.exp) && true)))
theorem eqHop (d : Nat) {h h' : Hop} (hw : h.wf) (hw' : h'.wf) (w : World) : (Op.equalIn (d + 4) 27 (.agg (hopC h)) (.agg (hopC h'))).run Tryz.prog w = .ok (hEq h h') w := by
 rw [run_equalIn_struct w (d + 3) _ _ _ (by kernel_rfl) (by kernel_rfl), flds_hop]
 unfold hEq
 refine eqFields_cons _ _ _ _ _ (T := 25) (off := 0) (by kernel_rfl) (by kernel_rfl) (by kernel_rfl) (partHopK hw) (partHopK hw') (eqHash (d + 1) _ _ hw.1 hw'.1) ?_
 refine eqFields_cons _ _ _ _ _ (T := 25) (off := 32) (by kernel_rfl) (by kernel_rfl) (by kernel_rfl) (partHopN hw) (partHopN hw') (eqHash (d + 1) _ _ hw.2 hw'.2) ?_
 refine eqFields_cons _ _ _ _ _ (T := 2) (off := 64) (by kernel_rfl) (by kernel_rfl) (by kernel_rfl) (part64 (hopC_amt hw)) (part64 (hopC_amt hw')) (eq64 _ _ _) ?_
 refine eqFields_cons _ _ _ _ _ (T := 2) (off := 65) (by kernel_rfl) (by kernel_rfl) (by kernel_rfl) (part64 (hopC_exp hw)) (part64 (hopC_exp hw')) (eq64 _ _ _) ?_
 exact eqFields_nil _ _ _ _
theorem hEq_refl (h : Hop) : hEq h h = true := by simp [hEq]
theorem eqgHop (b : BinOp) (x y : Operand) (xs ys : Array Value) (w : World) : (eqGuard b 27 x y (.agg xs) (.agg ys)).run Tryz.prog w = .ok () w := run_eqGuard_agg w b _ x y xs ys (by kernel_rfl)
theorem results_ctt {P : Program} {fn : Func} {p q r : Tmp} {ty : TypeId} (h : fn.results = #[.cell p ty, .tmp q, .tmp r]) (tmps : Array Value) (w : World) (g : Nat) (t : TypeId) (cs : Array Value) (d : TypeDesc) (v x : Value)
  (hp : tmps.getD p undef = .pointer (some ⟨g, 0, none⟩)) (hq : tmps.getD q undef = v) (hr : tmps.getD r undef = x) (hg : Row w g t cs)
  (hu : P.underlying ty = some d) (hd : (match d with | .struct _ | .array _ _ => true | _ => false) = true) (hi : (P.info? ty).map (·.size) = some cs.size) :
  (results fn tmps).run P w = .ok (.tuple #[.agg cs, v, x]) w := by
 have hp' : tmps[p]?.getD undef = .pointer (some ⟨g, 0, none⟩) := by simpa using hp
 have hq' : tmps[q]?.getD undef = v := by simpa using hq
 have hr' : tmps[r]?.getD undef = x := by simpa using hr
 simp [results, h, hp', hq', hr', asAddr, run_loadVar_row w g t ty cs (0, 0) d hg hu hd hi]
theorem cmpG {P : Program} {T : TypeId} {x y : Int} {b : Bool} {W : World} (h : decide (y < x) = b) : (binOp .gtr T (.int .i64 x) (.int .i64 y)).run P W = .ok (.bool b) W := by subst h; kernel_rfl
theorem buildHopF0 (f g : Nat -> Value) (a x : Int) (w : World) : (Instr.build 27 #[(0, .agg ((List.range 32).map f).toArray), (1, .agg ((List.range 32).map g).toArray), (2, .int .i64 a), (3, .int .i64 x)]).run Tryz.prog w = .ok (.agg ((List.range 32).map f ++ (List.range 32).map g ++ [Value.int .i64 a, Value.int .i64 x]).toArray) w := by kernel_rfl
theorem buildHopF {h : Hop} (hw : h.wf) (w : World) : (Instr.build 27 #[(0, .agg (hC h.key)), (1, .agg (hC h.next)), (2, .int .i64 h.amt), (3, .int .i64 h.exp)]).run Tryz.prog w = .ok (.agg (hopC h)) w := by
 have h1 := arr_range (hC h.key) 32 (hC_size h.key (Nat.le_of_eq hw.1))
 have h2 := arr_range (hC h.next) 32 (hC_size h.next (Nat.le_of_eq hw.2))
 unfold hopC
 rw [h1, h2]
 exact buildHopF0 _ _ _ _ w
theorem loadHashM {w : World} {b o : Nat} {k : List UInt8} (hk : k.length = 32) (hr : w.rangeAt b o (hC k).toList) : (Instr.loadAt 25 (.pointer (some ⟨b, o, none⟩))).run Tryz.prog w = .ok (.agg (hC k)) w := by
 have := run_loadAt_mid (P := Tryz.prog) w b o 25 (hC k).toList _ hr Tryz.underlying25 rfl (by rw [Array.length_toList, hC_size k (by omega)]; exact infoH)
 rwa [Array.toArray_toList] at this
theorem cmpGe {P : Program} {T : TypeId} {x y : Int} {b : Bool} {W : World} (h : decide (y <= x) = b) : (binOp .geq T (.int .i64 x) (.int .i64 y)).run P W = .ok (.bool b) W := by subst h; kernel_rfl
theorem cmpLe {P : Program} {T : TypeId} {x y : Int} {b : Bool} {W : World} (h : decide (x <= y) = b) : (binOp .leq T (.int .i64 x) (.int .i64 y)).run P W = .ok (.bool b) W := by subst h; kernel_rfl
def fromR (n : Nat) : Code -> Option Code
 | .seq a b => match a with
  | .region m _ _ => if m == n then some (.seq a b) else fromR n b
  | _ => match fromR n a with
   | some c => some c
   | none => fromR n b
 | .cond _ a b => match fromR n a with
  | some c => some c
  | none => fromR n b
 | .block _ c => fromR n c
 | .loop c => fromR n c
 | .scope c => fromR n c
 | _ => none
theorem ld8_25 {b o : Nat} {x : Int} {W : World} (hc : W.cell? ⟨b, o, none⟩ = some (.int .u8 x)) : (Instr.loadAt 5 (.pointer (some ⟨b, o, none⟩))).run Tryz.prog W = .ok (.int .u8 x) W := by
 go_simp
theorem idx25 {b n c i : Nat} (W : World) (h : i < n) : (Instr.indexAt 60 (.slice (some ⟨b, 0, none⟩) n c) (.int .i64 (i : Int))).run Tryz.prog W = .ok (.pointer (some ⟨b, i, none⟩)) W := by
 have h1 : (i : Int) < (n : Int) := by omega
 have h2 : (0 : Int) <= (i : Int) := by omega
 go_simp
structure RAt (W : World) (g : Nat) (A0 : Option Addr) (L l : List UInt8) (bad : Bool) : Prop where
 mv : Moved W g A0 L l bad
 rd : Rd W A0 L
 off : ∀ b o, A0 = some ⟨b, o, none⟩ -> L ≠ [] -> b ≠ g
theorem RAt.lt {W : World} {g : Nat} {A0 : Option Addr} {L l : List UInt8} {bad : Bool} (h : RAt W g A0 L l bad) : g < W.heap.size := by
 obtain ⟨D, c, hr, -⟩ := h.mv.ex
 exact hr.lt
theorem RAt.same {W W' : World} {g : Nat} {A0 : Option Addr} {L l : List UInt8} {bad : Bool} {p : Nat -> Prop} (h : RAt W g A0 L l bad) (hs : Same p W W') (hg : p g) (hb : ∀ b o, A0 = some ⟨b, o, none⟩ -> L ≠ [] -> p b) : RAt W' g A0 L l bad :=
 ⟨h.mv.same hs hg, h.rd.same hs hb, h.off⟩
theorem RAt.later {W W' : World} {g : Nat} {A0 : Option Addr} {L l : List UInt8} {bad : Bool} (h : RAt W g A0 L l bad) (hL : Later W W') : RAt W' g A0 L l bad :=
 h.same (Same.of_below hL.below) h.lt (fun b o e hne => h.rd.lt e hne)
theorem RAt.grown {W W' : World} {g q : Nat} {A0 : Option Addr} {L l : List UInt8} {bad : Bool} (h : RAt W g A0 L l bad) (hg : W.grownBy W' (some q)) (hq : g ≠ q) (hb : ∀ b o, A0 = some ⟨b, o, none⟩ -> L ≠ [] -> b ≠ q) : RAt W' g A0 L l bad :=
 h.same (Same.of_grown hg) ⟨h.lt, fun e => hq (Option.some.inj e)⟩ (fun b o e hne => ⟨h.rd.lt e hne, fun e2 => hb b o e hne (Option.some.inj e2)⟩)
theorem RAt.step {W W' : World} {g : Nat} {A0 D : Option Addr} {L l l' : List UInt8} {bad bad' : Bool} (h : RAt W g A0 L l bad) (hD : ∀ X, Rd X A0 L -> Rd X D l) (hs : Same (fun k => k < W.heap.size /\ k ≠ g) W W') (hm : Moved W' g D l l' bad') : RAt W' g A0 L l' bad' := by
 obtain ⟨D2, c2, h1, h2, h3, h4⟩ := hm.ex
 exact ⟨⟨D2, c2, h1, h2, h3, fun X hX => h4 X (hD X hX)⟩, h.rd.same hs (fun b o e hne => ⟨h.rd.lt e hne, h.off b o e hne⟩), h.off⟩
theorem atHash_any {w : World} {g : Nat} {A0 : Option Addr} {L l : List UInt8} {bad : Bool} (h : RAt w g A0 L l bad) :
  Calls Tryz.prog 79 #[.pointer (some ⟨g, 0, none⟩)] w fun e w' => e = .returned (.tuple #[.agg (hC (Wr.hashR l bad).2.1), .int .i64 (Wr.hashR l bad).2.2]) /\ Same (fun k => k < w.heap.size /\ k ≠ g) w w' /\ RAt w' g A0 L (Wr.hashR l bad).1.1 (Wr.hashR l bad).1.2 := by
 obtain ⟨D, c, hr, hc, hcm, hD⟩ := h.mv.ex
 exact (hash_mv g l bad w D c hr hc hcm (hD w h.rd)).mono fun e w' ⟨h1, h2, h3⟩ => ⟨h2, h1, h.step hD h1 h3⟩
theorem atNum_any {w : World} {g : Nat} {A0 : Option Addr} {L l : List UInt8} {bad : Bool} (most : Int) (h : RAt w g A0 L l bad) :
  Calls Tryz.prog 80 #[.pointer (some ⟨g, 0, none⟩), .int .i64 most] w fun e w' => e = .returned (.tuple #[.int .i64 (Wr.numR l bad most).2.1, .int .i64 (Wr.numR l bad most).2.2]) /\ Same (fun k => k < w.heap.size /\ k ≠ g) w w' /\ RAt w' g A0 L (Wr.numR l bad most).1.1 (Wr.numR l bad most).1.2 := by
 obtain ⟨D, c, hr, hc, hcm, hD⟩ := h.mv.ex
 exact (rNumber_mv g l bad most w D c hr hc hcm (hD w h.rd)).mono fun e w' ⟨h1, h2, h3⟩ => ⟨h2, h1, h.step hD h1 h3⟩
theorem atText_any {w : World} {g : Nat} {A0 : Option Addr} {L l : List UInt8} {bad : Bool} (most : Int) (h : RAt w g A0 L l bad) :
  Calls Tryz.prog 38 #[.pointer (some ⟨g, 0, none⟩), .int .i64 most] w fun e w' => e = .returned (.tuple #[.string ⟨(Wr.textR l bad most).2.1.toArray⟩, .int .i64 (Wr.textR l bad most).2.2]) /\ Same (fun k => k < w.heap.size /\ k ≠ g) w w' /\ RAt w' g A0 L (Wr.textR l bad most).1.1 (Wr.textR l bad most).1.2 := by
 obtain ⟨D, c, hr, hc, hcm, hD⟩ := h.mv.ex
 exact (wtextR_mv g l bad most w D c hr hc hcm (hD w h.rd)).mono fun e w' ⟨h1, h2, h3⟩ => ⟨h2, h1, h.step hD h1 h3⟩
theorem atEnd_any {w : World} {g : Nat} {A0 : Option Addr} {L l : List UInt8} {bad : Bool} (h : RAt w g A0 L l bad) :
  Calls Tryz.prog 39 #[.pointer (some ⟨g, 0, none⟩)] w fun e w' => e = .returned (.int .i64 (Wr.endR l bad).2) /\ Same (fun k => k < w.heap.size /\ k ≠ g) w w' /\ RAt w' g A0 L (Wr.endR l bad).1.1 (Wr.endR l bad).1.2 := by
 obtain ⟨D, c, hr, hc, hcm, hD⟩ := h.mv.ex
 exact (end_mv g l bad w D c hr hc hcm (hD w h.rd)).mono fun e w' ⟨h1, h2, h3⟩ => ⟨h2, h1, h.step hD h1 h3⟩
theorem atRead_any (A : Option Addr) (n ca : Nat) (l : List UInt8) (w : World) (hn : l.length = n) (hbn : n <= 140737488355328) (hr : Rd w A l) :
  Calls Tryz.prog 35 #[.slice A n ca] w fun e w' => ∃ g A1, e = .returned (.pointer (some ⟨g, 0, none⟩)) /\ RAt w' g A1 l l false /\ (∀ b o, A1 = some ⟨b, o, none⟩ -> l ≠ [] -> w.heap.size <= b) /\ w.heap.size <= g /\ Below w.heap.size w w' :=
 (read_mv A n ca l w hn hbn hr).mono fun e w' ⟨g, A1, h1, h2, h3, h4, h5, h6⟩ => ⟨g, A1, h1, ⟨h2, h3, fun b o e hne => (h4 b o e hne).2⟩, fun b o e hne => (h4 b o e hne).1, h5, h6⟩
theorem boxReader (v : Value) (w : World) : (Instr.box 83 (.agg #[v])).run Tryz.prog w = .ok (.pointer (some ⟨w.heap.size, 0, none⟩)) (w.alloc (.cells #[v] 83)) := run_box_row w _ _ (by kernel_rfl)
theorem storeHz {w : World} {g : Nat} {a x : List UInt8} (ha : a.length <= 32) (hx : x.length <= 32) (hr : Row w g 25 (hC a)) : ∃ w', (Instr.storeAt 25 (.pointer (some ⟨g, 0, none⟩)) (.agg (hC x))).run Tryz.prog w = .ok () w' /\ Row w' g 25 (hC x) /\ w.grownBy w' (some g) :=
 run_put_row hr (by rw [hC_size a ha, hC_size x hx]) (by rw [hC_size x hx]; exact infoH) (hC_one x)
theorem rrNum_any (g : Nat) (A0 : Option Addr) (L l : List UInt8) (bad : Bool) (most no : Int) (w : World) (h : RAt w g A0 L l bad) :
  Calls Tryz.prog 37 #[.agg #[.pointer (some ⟨g, 0, none⟩)], .int .i64 most, .int .i64 no] w fun e w' => Same (fun k => k < w.heap.size /\ k ≠ g) w w' /\ RAt w' g A0 L (Wr.numR l bad most).1.1 (Wr.numR l bad most).1.2 /\ ((Wr.numR l bad most).2.2 = 0 /\ e = .returned (.int .i64 (Wr.numR l bad most).2.1) \/ (Wr.numR l bad most).2.2 ≠ 0 /\ e = .panicked (gaveUp no)) := by
 refine Calls.post fun Φ HΦ => ?_
 have hbx := boxReader (.pointer (some ⟨g, 0, none⟩)) w
 have hr := Row.new w 83 #[.pointer (some ⟨g, 0, none⟩)]
 have hL : Later w (w.alloc (.cells #[.pointer (some ⟨g, 0, none⟩)] 83)) := below_new w _
 have hc : (w.alloc (.cells #[.pointer (some ⟨g, 0, none⟩)] 83)).cell? ⟨w.heap.size, 0, none⟩ = some (.pointer (some ⟨g, 0, none⟩)) := (hr.cell 0).trans rfl
 have hnum := atNum_any most (h.later hL)
 have hglt := h.lt
 generalize w.alloc (.cells #[.pointer (some ⟨g, 0, none⟩)] 83) = w1 at *
 obtain ⟨R, hR⟩ : ∃ R, Wr.numR l bad most = R := ⟨_, rfl⟩
 rw [hR] at hnum HΦ
 obtain ⟨⟨l', bad'⟩, x, er⟩ := R
 simp only at hnum HΦ
 have HL := Lib.hid hL
 clear hr hL hR h
 by_cases h0 : er = 0
 ·subst h0
  go_enter Tryz.func37, Tryz.ntmps37
  go_wp2_with (first
   | (guard_target =~ wpList _ _ _ (_ :: _) _ _; refine wpList_box rfl 83 (.tmp 0) rfl (.agg #[.pointer (some ⟨g, 0, none⟩)]) rfl hbx ?_)
   | (go_at_call 80; refine hnum.mono ?_; clear hnum; rintro e w2 ⟨rfl, hs2, hr2⟩)
   | (go_at_call 32; refine (rmust_ok _ _).mono ?_; rintro e w7 ⟨h7, rfl⟩; obtain rfl := h7.symm)
   | fail)
  exact HΦ.out _ _ ⟨((Same.of_below HL.out.below).mono fun k hk => hk.1).trans (hs2.mono fun k hk => ⟨Nat.lt_of_lt_of_le hk.1 HL.out.size, hk.2⟩), hr2, .inl (by simp)⟩
 ·have h0' : (er == 0) = false := by simpa using h0
  go_enter Tryz.func37, Tryz.ntmps37
  go_wp2_with (first
   | (guard_target =~ wpList _ _ _ (_ :: _) _ _; refine wpList_box rfl 83 (.tmp 0) rfl (.agg #[.pointer (some ⟨g, 0, none⟩)]) rfl hbx ?_)
   | (go_at_call 80; refine hnum.mono ?_; clear hnum; rintro e w2 ⟨rfl, hs2, hr2⟩)
   | (go_at_call 32; refine (rmust_no _ _).mono ?_; rintro e w7 ⟨h7, rfl⟩; obtain rfl := h7.symm)
   | fail)
  exact ⟨rfl, HΦ.out _ _ ⟨((Same.of_below HL.out.below).mono fun k hk => hk.1).trans (hs2.mono fun k hk => ⟨Nat.lt_of_lt_of_le hk.1 HL.out.size, hk.2⟩), hr2, .inr ⟨h0, rfl⟩⟩⟩
theorem rrHash_any (g : Nat) (A0 : Option Addr) (L l : List UInt8) (bad : Bool) (no : Int) (w : World) (h : RAt w g A0 L l bad) :
  Calls Tryz.prog 36 #[.agg #[.pointer (some ⟨g, 0, none⟩)], .int .i64 no] w fun e w' => Same (fun k => k < w.heap.size /\ k ≠ g) w w' /\ RAt w' g A0 L (Wr.hashR l bad).1.1 (Wr.hashR l bad).1.2 /\ ((Wr.hashR l bad).2.2 = 0 /\ e = .returned (.agg (hC (Wr.hashR l bad).2.1)) \/ (Wr.hashR l bad).2.2 ≠ 0 /\ e = .panicked (gaveUp no)) := by
 refine Calls.post fun Φ HΦ => ?_
 have hbx := boxReader (.pointer (some ⟨g, 0, none⟩)) w
 have hr := (Row.new w 83 #[.pointer (some ⟨g, 0, none⟩)]).alloc (.cells (hC []) 25)
 have hr4 := Row.new (w.alloc (.cells #[.pointer (some ⟨g, 0, none⟩)] 83)) 25 (hC [])
 have hL : Later w ((w.alloc (.cells #[.pointer (some ⟨g, 0, none⟩)] 83)).alloc (.cells (hC []) 25)) := ((Later.refl w).alloc _).alloc _
 have hc : ((w.alloc (.cells #[.pointer (some ⟨g, 0, none⟩)] 83)).alloc (.cells (hC []) 25)).cell? ⟨w.heap.size, 0, none⟩ = some (.pointer (some ⟨g, 0, none⟩)) := (hr.cell 0).trans rfl
 have hnum := atHash_any (h.later hL)
 have hlen := Wr.hashR_len l bad
 have hglt := h.lt
 have hoff := Lib.hid (fun b o e hne => h.rd.lt (b := b) (o := o) e hne)
 obtain ⟨R, hR⟩ : ∃ R, Wr.hashR l bad = R := ⟨_, rfl⟩
 rw [hR] at hnum HΦ hlen
 obtain ⟨⟨l', bad'⟩, x, er⟩ := R
 simp only at hnum HΦ hlen
 have hx : x.length <= 32 := by rcases hlen with h | h; rw [h]; decide; omega
 have HL := Lib.hid hL
 clear hr hL hR h hlen
 go_enter Tryz.func36, Tryz.ntmps36
 go_upto_region 1 with (first
  | (guard_target =~ wpList _ _ _ (_ :: _) _ _; refine wpList_box rfl 83 (.tmp 0) rfl (.agg #[.pointer (some ⟨g, 0, none⟩)]) rfl hbx ?_)
  | (with_reducible refine wpList_alloc rfl 25 rfl (allocH _) ?_)
  | fail)
 simp only [World.size_alloc] at hr4 ⊢
 obtain ⟨qq, hqq⟩ : ∃ q, q = w.heap.size := ⟨_, rfl⟩
 rw [<- hqq] at hc hr4 ⊢
 generalize (w.alloc (.cells #[.pointer (some ⟨g, 0, none⟩)] 83)).alloc (.cells (hC []) 25) = w1 at *
 have hg1 : g ≠ qq + 1 := by omega
 have HQ := Lib.hid hqq
 clear hqq hbx
 have h4lt := hr4.lt
 go_upto_region 2 with (first
  | (go_at_call 79; refine hnum.mono ?_; clear hnum; rintro e w2 ⟨rfl, hs2, hr2⟩; obtain ⟨w3, hst, k53, hg3⟩ := storeHz (a := []) (x := x) (by simp) hx (Row.new w2 25 (hC [])))
  | (with_reducible refine wpList_alloc rfl 25 rfl (allocH _) ?_)
  | (guard_target =~ wpList _ _ _ (_ :: _) _ _; refine wpList_store rfl 25 (.tmp 5) (.tmp 11) rfl (.pointer (some ⟨w2.heap.size, 0, none⟩)) (.agg (hC x)) rfl rfl hst ?_)
  | fail)
 have hL23 : Later w2 w3 := ((Later.refl w2).alloc (.cells (hC []) 25)).grown hg3 (by simp) (fun j e => by cases e; omega)
 have hr3 := hr2.later hL23
 have k43 := (hr4.same hs2 ⟨h4lt, fun e => hg1 e.symm⟩).later hL23
 obtain ⟨q5, hq5⟩ : ∃ q, q = w2.heap.size := ⟨_, rfl⟩
 have h25 := hs2.size
 rw [<- hq5] at k53 hg3 h25 ⊢
 have hs3 : Same (fun k => k < w.heap.size /\ k ≠ g) w w3 := (((Same.of_below HL.out.below).mono fun k hk => hk.1).trans (hs2.mono fun k hk => ⟨Nat.lt_of_lt_of_le hk.1 HL.out.size, hk.2⟩)).trans ((Same.of_below hL23.below).mono fun k hk => by have := HL.out.size; rw [<- hq5]; omega)
 have H5 := Lib.hid hq5
 clear hq5 hs2 hL23 hg3 hst hr2
 by_cases h0 : er = 0
 ·subst h0
  have hld := loadHz hx k53
  obtain ⟨w4, hst4, k44, hg4⟩ := storeHz (a := []) (x := x) (by simp) hx k43
  have hs4 : Same (fun k => k < w.heap.size /\ k ≠ g) w w4 := hs3.trans ((Same.of_grown hg4).mono fun k hk => ⟨Nat.lt_of_lt_of_le hk.1 hs3.size, fun e => by have := Option.some.inj e; have := HQ.out; omega⟩)
  have hr4' := hr3.grown hg4 hg1 (fun b o e hne => by have := hoff.out b o e hne; have := HQ.out; omega)
  have HR4 := Lib.hid (⟨hs4, hr4'⟩ : _ /\ _)
  clear hs3 hr3 hs4 hr4'
  go_wp2_with (first
   | (go_at_call 32; refine (rmust_ok _ _).mono ?_; rintro e w7 ⟨h7, rfl⟩; obtain rfl := h7.symm)
   | (guard_target =~ wpList _ _ _ (_ :: _) _ _; refine wpList_load rfl 25 (.tmp 5) rfl (.pointer (some ⟨q5, 0, none⟩)) rfl hld ?_)
   | (guard_target =~ wpList _ _ _ (_ :: _) _ _; refine wpList_store rfl 25 (.tmp 4) (.tmp 17) rfl (.pointer (some ⟨qq + 1, 0, none⟩)) (.agg (hC x)) rfl rfl hst4 ?_)
   | fail)
  exact bodyPost_ret (results_cell_row rfl _ _ (qq + 1) 25 (hC x) (0, 0) _ rfl k44 Tryz.underlying25 rfl (by rw [hC_size x hx]; exact infoH)) rfl (HΦ.out _ _ ⟨HR4.out.1, HR4.out.2, .inl (by simp)⟩)
 ·have h0' : (er == 0) = false := by simpa using h0
  go_wp2_with (first
   | (go_at_call 32; refine (rmust_no _ _).mono ?_; rintro e w7 ⟨h7, rfl⟩; obtain rfl := h7.symm)
   | fail)
  exact ⟨rfl, HΦ.out _ _ ⟨hs3, hr3, .inr ⟨h0, rfl⟩⟩⟩
namespace Rt
def nameL : List UInt8 := [114, 111, 117, 116, 101, 0]
def xorL (a b : List UInt8) : List UInt8 := List.zipWith (· ^^^ ·) a b
def mask (key tag b : List UInt8) : List UInt8 := xorL b (Hm.expand key (nameL ++ tag) b.length)
theorem xorL_len {a b : List UInt8} (h : a.length <= b.length) : (xorL a b).length = a.length := by simp [xorL]; omega
def xk (a b : List UInt8) (k : Nat) : List UInt8 := xorL (a.take k) (b.take k) ++ a.drop k
theorem xk_zero (a b : List UInt8) : xk a b 0 = a := by simp [xk, xorL]
theorem xk_all {a b : List UInt8} {k : Nat} (h : a.length = k) (hb : k <= b.length) : xk a b k = xorL a b := by
 unfold xk
 rw [List.drop_of_length_le (by omega), List.append_nil, List.take_of_length_le (by omega)]
 unfold xorL
 apply List.ext_getElem?
 intro i
 rw [List.getElem?_zipWith, List.getElem?_zipWith]
 by_cases hi : i < k
 ·rw [List.getElem?_take_of_lt hi]
 ·rw [List.getElem?_eq_none (l := a) (by omega)]
theorem xk_len {a b : List UInt8} {k : Nat} (h : a.length <= b.length) (hk : k <= a.length) : (xk a b k).length = a.length := by
 unfold xk
 rw [List.length_append, List.length_drop]
 simp [xorL]
 omega
theorem xk_at {a b : List UInt8} {k : Nat} (h : a.length <= b.length) (hk : k < a.length) : (xk a b k)[k]? = a[k]? := by
 unfold xk
 rw [List.getElem?_append_right (by simp [xorL]; omega), List.getElem?_drop]
 congr 1
 simp [xorL]
 omega
theorem xk_set {a b : List UInt8} {k : Nat} (h : a.length <= b.length) (hk : k < a.length) : (xk a b k).set k (a[k] ^^^ b[k]) = xk a b (k + 1) := by
 have hb : k < b.length := by omega
 have hl : (xorL (a.take k) (b.take k)).length = k := by simp [xorL]; omega
 unfold xk
 rw [List.set_append_right _ _ (by omega), hl, Nat.sub_self, List.drop_eq_getElem_cons hk, List.set_cons_zero, List.take_succ_eq_append_getElem hk, List.take_succ_eq_append_getElem hb]
 unfold xorL
 rw [List.zipWith_append (by simp; omega)]
 simp
end Rt
theorem idx25b {b o n c i : Nat} (W : World) (h : i < n) : (Instr.indexAt 60 (.slice (some ⟨b, o, none⟩) n c) (.int .i64 (i : Int))).run Tryz.prog W = .ok (.pointer (some ⟨b, o + i, none⟩)) W := by
 have h1 : (i : Int) < (n : Int) := by omega
 have h2 : (0 : Int) <= (i : Int) := by omega
 go_simp
theorem st8_25 {b o : Nat} {x : Int} {v : Value} {W : World} (hc : W.cell? ⟨b, o, none⟩ = some (.int .u8 x)) (hf : W.frozen? ⟨b, o, none⟩ = false) (y : Int) (hv : v = .int .u8 y) : (Instr.storeAt 5 (.pointer (some ⟨b, o, none⟩)) v).run Tryz.prog W = .ok () (W.setCell ⟨b, o, none⟩ v) := by
 subst hv
 go_simp
theorem xoredP_any (A B : Option Addr) (n ca m cb : Nat) (a b : List UInt8) (w : World) (hn : a.length = n) (hm : b.length = m) (hnm : n <= m) (hbn : n <= 1000000) (hra : Rd w A a) (hrb : Rd w B b) :
  Calls Tryz.prog 77 #[.slice A n ca, .slice B m cb] w fun e w' => ∃ v, e = .returned v /\ Own 5 w' w.heap.size v (xorL a b) /\ Below w.heap.size w w' := by
 refine Calls.post fun Φ HΦ => ?_
 have hcl := clone_any A n ca a w hn (by omega) hra
 have HN := Lib.hid hn
 have HM := Lib.hid hm
 have HRB := Lib.hid hrb
 clear hra hrb hn hm
 go_enter Tryz.func77, Tryz.ntmps77
 go_upto_region 2 with (first
  | (go_at_call 78; refine hcl.mono ?_; clear hcl; rintro e w1 ⟨v1, rfl, hown1, hb1⟩)
  | fail)
 obtain ⟨A1, c1, rfl, -, -, -⟩ := hown1.slice
 rw [HN.out] at hown1 ⊢
 go_wp2_with fail
 go_loopw [6, 11] (fun _ t wr => ∃ k : Nat, k <= n /\ t = .int .i64 (k : Int) /\ Own 5 wr w.heap.size (.slice A1 n c1) (xk a b k) /\ Below w.heap.size w wr) (fun _ t _ => n - (intOf t).toNat)
 case atStart => exact ⟨0, by omega, rfl, by rw [xk_zero]; exact hown1, hb1⟩
 case round =>
  obtain ⟨k, hk, rfl, hown, hbr⟩ := hrel
  clear hown1 hb1
  by_cases hlt : k < n
  ·have hd : decide ((k : Int) < (n : Int)) = true := decide_eq_true (by omega)
   have hd' : decide (k < n) = true := decide_eq_true hlt
   have han := HN.out
   have hbm := HM.out
   have hka : k < a.length := by omega
   have hkb : k < b.length := by omega
   have hxl : (xk a b k).length = n := by rw [xk_len (by omega) (by omega), han]
   obtain ⟨g, c2, e2, hown2, hgw, hgl, hnc, hcm⟩ := hown.formN hxl (by omega)
   injection e2 with e3 e4 e5
   subst e3 e5
   obtain ⟨hc, hf⟩ := hown2.cellAt k (by omega)
   have hxk : (xk a b k)[k]'(by omega) = a[k] := by
    have h1 := xk_at (a := a) (b := b) (k := k) (by omega) hka
    rw [List.getElem?_eq_getElem (by omega), List.getElem?_eq_getElem hka] at h1
    exact Option.some.inj h1
   rw [hxk] at hc
   have hrbr := HRB.out.below hbr
   obtain ⟨bB, oB, rfl, hcb⟩ := hrbr.at_ hkb
   have hset := xk_set (a := a) (b := b) (k := k) (by omega) hka
   obtain ⟨x, hx⟩ : ∃ x, a[k] = x := ⟨_, rfl⟩
   obtain ⟨y, hy⟩ : ∃ y, b[k] = y := ⟨_, rfl⟩
   rw [hx, hy] at hset
   rw [hx] at hc
   rw [hy] at hcb
   have HS := Lib.hid hset
   have HXL := Lib.hid hxl
   have HOW := Lib.hid hown2
   clear hset hxk hx hy hxl hown2 hown
   have hkm : k < m := by omega
   go_upto_region 5 with fail
   refine (wpIn_wide (n := 0)).1 ?_
   refine wpIn_region_last wide_wide [Pr.eq (.slice (some ⟨g, 0, none⟩) n c1), Pr.eq (.int .i64 (k : Int)), Pr.eq (.pointer (some ⟨g, k, none⟩)), Pr.eq (.int .u8 (x.toNat : Int)), Pr.eq (.slice (some ⟨bB, oB, none⟩) m cb), Pr.eq (.int .i64 (k : Int)), Pr.eq (.pointer (some ⟨bB, oB + k, none⟩)), Pr.eq (.int .u8 (y.toNat : Int)), Pr.eq (.int .u8 ((x ^^^ y).toNat : Int)), Pr.eq (.pointer (some ⟨g, k, none⟩))] (by kernel_rfl) (by kernel_rfl) (by kernel_rfl) (by kernel_rfl) (by kernel_rfl) (by kernel_rfl) rfl ⟨?_, ?_, ?_, ?_, ?_, ?_, ?_, ?_, ?_, ?_, trivial⟩ ?_
   ·exact fun ac W hL he => stepOk_want rfl (op_move rfl (he.k 5))
   ·exact fun ac W hL he => stepOk_want rfl (op_move rfl (he.k 6))
   ·exact fun ac W hL he => stepOk_want rfl (op_idx rfl (he.g 0 14) (he.g 1 15) (idx25 W hlt) rfl)
   ·exact fun ac W hL he => stepOk_want rfl (op_load rfl (he.g 2 16) (ld8_25 (hL.cell hc)) rfl)
   ·exact fun ac W hL he => stepOk_want rfl (op_move rfl (he.k 1))
   ·exact fun ac W hL he => stepOk_want rfl (op_move rfl (he.k 6))
   ·exact fun ac W hL he => stepOk_want rfl (op_idx rfl (he.g 4 18) (he.g 5 19) (idx25b W hkm) rfl)
   ·exact fun ac W hL he => stepOk_want rfl (op_load rfl (he.g 6 20) (ld8_25 (hL.cell hcb)) rfl)
   ·exact fun ac W hL he => stepOk_want rfl (op_binOp rfl (he.g 3 17) (he.g 7 21) eqg_xor (xor8 x y W) rfl)
   ·exact fun ac W hL he => stepOk_want rfl (op_idx rfl (he.g 0 14) (he.g 1 15) (idx25 W hlt) rfl)
   intro xs W hL2 hx hk2 hgt
   have v9 : xs 9 = .pointer (some ⟨g, k, none⟩) := hx 9 (by decide)
   have v8 : xs 8 = .int .u8 ((x ^^^ y).toNat : Int) := hx 8 (by decide)
   have e1 := (hgt 9 23 (by decide) (by kernel_rfl)).trans v9
   have e2 := (hgt 8 22 (by decide) (by kernel_rfl)).trans v8
   have hcW := hL2.cell hc
   have hown3 := HOW.out.later hL2
   have hfW := (hown3.cellAt k (by rw [HXL.out]; exact hlt)).2
   refine last_store rfl rfl e1 e2 (st8_25 hcW hfW _ rfl) ?_
   have hown4 := hown3.setAt k (x ^^^ y) (by rw [HXL.out]; exact hlt)
   rw [HS.out] at hown4
   have hb4 : Below w.heap.size w (W.setCell ⟨g, k, none⟩ (.int .u8 ((x ^^^ y).toNat : Int))) := (hbr.trans (hL2.below.mono hbr.size)).setCell (p := ⟨g, k, none⟩) hgw _
   clear hx hk2 hgt e1 e2 v8 v9 hcW hfW hown3 hc hcb
   simp only [initL, lastL, putL, Nat.reduceAdd, Act.put, List.setIfInBounds_toArray, List.set_cons_succ, List.set_cons_zero]
   go_wp2_with fail
   go_roundw
   case rel => exact ⟨k + 1, by omega, by go_num, hown4, hb4⟩
   case measure => simp [intOf]; omega
  ·obtain rfl : k = n := by omega
   have hd : decide ((k : Int) < (k : Int)) = false := decide_eq_false (by omega)
   have hd' : decide (k < k) = false := decide_eq_false (by omega)
   rw [xk_all HN.out (by rw [HM.out]; exact hnm)] at hown
   go_wp2_with fail
   exact HΦ.out _ _ ⟨_, rfl, hown, hbr⟩
def Pr.tupB (n : Nat) (l : List UInt8) : Pr := ⟨fun v W => ∃ S c, v = .tuple #[.slice S n c, .int .i64 0] /\ n <= c /\ Rd W S l, fun _ _ _ ⟨S, c, e, h1, h2⟩ hL => ⟨S, c, e, h1, h2.later hL⟩⟩
def Pr.slB (n : Nat) (l : List UInt8) : Pr := ⟨fun v W => ∃ S c, v = .slice S n c /\ n <= c /\ Rd W S l, fun _ _ _ ⟨S, c, e, h1, h2⟩ hL => ⟨S, c, e, h1, h2.later hL⟩⟩
theorem masked_any (key tag : List UInt8) (A : Option Addr) (n ca : Nat) (b : List UInt8) (w : World) (hk : key.length = 32) (ht : tag.length = 32) (hn : b.length = n) (hbn : n <= 8160) (hr : Rd w A b) :
  Calls Tryz.prog 33 #[.agg (hC key), .agg (hC tag), .slice A n ca] w fun e w' => ∃ v, e = .returned v /\ Own 5 w' w.heap.size v (mask key tag b) /\ Below w.heap.size w w' := by
 refine Calls.post fun Φ HΦ => ?_
 have k3 := (Row.new w 25 (hC key)).alloc (.cells (hC tag) 25)
 have k4 := Row.new (w.alloc (.cells (hC key) 25)) 25 (hC tag)
 have hL2 : Later w ((w.alloc (.cells (hC key) 25)).alloc (.cells (hC tag) 25)) := ((Later.refl w).alloc _).alloc _
 have hb3 := boxH key hk w
 have hb4 := boxH tag ht (w.alloc (.cells (hC key) 25))
 have hr2 := hr.later hL2
 simp only [World.size_alloc] at k4 hb4
 have HL2 := Lib.hid hL2
 clear hL2 hr
 go_enter Tryz.func33, Tryz.ntmps33
 go_upto_region 1 with (first
  | (guard_target =~ wpList _ _ _ (_ :: _) _ _; refine wpList_box rfl 25 (.tmp 0) rfl (.agg (hC key)) rfl hb3 ?_)
  | (guard_target =~ wpList _ _ _ (_ :: _) _ _; refine wpList_box rfl 25 (.tmp 1) rfl (.agg (hC tag)) rfl hb4 ?_)
  | fail)
 obtain ⟨g3, hg3⟩ : ∃ g, g = w.heap.size := ⟨_, rfl⟩
 obtain ⟨g4, hg4⟩ : ∃ g, g = w.heap.size + 1 := ⟨_, rfl⟩
 try simp only [World.size_alloc]
 rw [<- hg4] at k4 ⊢
 rw [<- hg3] at k3 ⊢
 clear hb3 hb4 hg3 hg4
 generalize (w.alloc (.cells (hC key) 25)).alloc (.cells (hC tag) 25) = w1 at *
 have hrk := rd_hash hk k3
 have hrt := rd_hash ht k4
 have hadd := fun W => run_str_add nameL tag (by rw [ht]; decide) W
 obtain ⟨nt, hnt⟩ : ∃ l, nameL ++ tag = l := ⟨_, rfl⟩
 have hntl : nt.length <= 100 := by rw [<- hnt, List.length_append, ht]; decide
 rw [hnt] at hadd
 have HX : Hid (mask key tag b = xorL b (Hm.expand key nt n)) := Lib.hid (by unfold mask; rw [hnt, hn])
 have hxl : (Hm.expand key nt n).length = n := Hm.expand_len key nt n
 obtain ⟨X, hX⟩ : ∃ x, Hm.expand key nt n = x := ⟨_, rfl⟩
 have hex : ∀ W, Later w1 W -> Calls Tryz.prog 76 #[.slice (some ⟨g3, 0, none⟩) 32 32, .string ⟨nt.toArray⟩, .int .i64 (n : Int)] W fun e w' => ∃ v, e = .returned (.tuple #[v, .int .i64 0]) /\ Own 5 w' W.heap.size v X /\ Below W.heap.size W w' := fun W hL => by
  rw [<- hX]
  exact expand_any _ 32 32 key nt n W hk (by decide) (by decide) (by decide) (by omega) (hrk.later hL) hbn
 rw [hX] at hxl HX
 clear hX hnt
 refine wp_region_list [Pr.eq (.slice (some ⟨g3, 0, none⟩) 32 32), Pr.eq (.slice (some ⟨g4, 0, none⟩) 32 32), Pr.eq (.string ⟨tag.toArray⟩), Pr.eq (.string ⟨nt.toArray⟩), Pr.eq (.slice A n ca), Pr.eq (.int .i64 (n : Int)), Pr.tupB n X, Pr.tupB n X, Pr.slB n X, Pr.eq (.int .i64 0), Pr.slB n X, Pr.eq (.int .i64 0)] (by kernel_rfl) (by kernel_rfl) (by kernel_rfl) (by kernel_rfl) ⟨?_, ?_, ?_, ?_, ?_, ?_, ?_, ?_, ?_, ?_, ?_, ?_, trivial⟩ ?_
 ·exact fun ac W hL he => stepOk_want rfl (op_slice (W' := W) rfl (he.k 3) (rfl : _ = none) (rfl : _ = none) rfl (sliceHash W) rfl)
 ·exact fun ac W hL he => stepOk_want rfl (op_slice (W' := W) rfl (he.k 4) (rfl : _ = none) (rfl : _ = none) rfl (sliceHash W) rfl)
 ·exact fun ac W hL he => stepOk_want rfl (op_convert rfl (he.g 1 11) (run_string_rd W 60 9 5 _ 32 32 tag Tryz.underlying60 Tryz.underlying5 Tryz.underlying9 ht (hrt.later hL)) (Later.refl _) rfl)
 ·exact fun ac W hL he => stepOk_want rfl (op_binOp rfl rfl (he.g 2 12) (eqg_any rfl) (hadd W) rfl)
 ·exact fun ac W hL he => stepOk_want rfl (op_move rfl (he.k 2))
 ·exact fun ac W hL he => stepOk_want rfl (op_len Tryz.underlying60 rfl (he.g 4 14) rfl)
 ·intro ac W hL he; refine stepOk_want rfl ?_; have e0 : ac.eval (.tmp 10) = .slice (some ⟨g3, 0, none⟩) 32 32 := he.g 0 10; have e1 : ac.eval (.tmp 13) = .string ⟨nt.toArray⟩ := he.g 3 13; have e2 : ac.eval (.tmp 15) = .int .i64 (n : Int) := he.g 5 15; exact op_callF (vs := #[.slice (some ⟨g3, 0, none⟩) 32 32, .string ⟨nt.toArray⟩, .int .i64 (n : Int)]) rfl (by simp only [List.map_toArray, List.map_cons, List.map_nil, e0, e1, e2]) (enters_of Tryz.func76 (by kernel_rfl) rfl) ((hex W hL).mono fun e W' ⟨v, he', ho, hb⟩ => ⟨_, he', hb, by obtain ⟨S, c, e5, h5, _, h6⟩ := ho.slice; rw [hxl] at e5 h5; exact ⟨S, c, by rw [e5], h5, h6⟩⟩)
 ·exact fun ac W hL he => stepOk_want rfl (op_move rfl (he.g 6 16))
 ·intro ac W hL he; refine stepOk_want rfl ?_; obtain ⟨S, c, e0, h1, h2⟩ : (Pr.tupB n X).R (ac.eval (.tmp 9)) W := he.g 7 9; exact op_extract rfl e0 rfl ⟨S, c, rfl, h1, h2⟩
 ·intro ac W hL he; refine stepOk_want rfl ?_; obtain ⟨S, c, e0, h1, h2⟩ : (Pr.tupB n X).R (ac.eval (.tmp 9)) W := he.g 7 9; exact op_extract rfl e0 rfl rfl
 ·exact fun ac W hL he => stepOk_want rfl (op_assign rfl (he.g 8 17))
 ·exact fun ac W hL he => stepOk_want rfl (op_assign rfl (he.g 9 18))
 intro xs W hL hx
 obtain ⟨S, cS, v10, hSc, hRS⟩ : (Pr.slB n X).R (xs 10) W := hx 10 (by decide)
 have v11 : xs 11 = .int .i64 0 := hx 11 (by decide)
 simp only [putL, Nat.reduceAdd, Act.put, List.setIfInBounds_toArray, List.set_cons_succ, List.set_cons_zero]
 rw [v10, v11]
 have hxo := xoredP_any A S n ca n cS b X W hn hxl (Nat.le_refl _) (by omega) (hr2.later hL) hRS
 have HL3 := Lib.hid (HL2.out.step hL)
 clear hx v10 v11 hex hadd hrk hrt k3 k4 hr2 hRS hL
 go_wp2_with (first
  | (go_at_call 77; refine hxo.mono ?_; clear hxo; rintro e w5 ⟨v5, rfl, hown5, hb5⟩)
  | fail)
 rw [<- HX.out] at hown5
 exact HΦ.out _ _ ⟨_, rfl, hown5.mono HL3.out.size, HL3.out.below.trans (hb5.mono HL3.out.size)⟩
theorem build1B25 (z : Int) (w : World) : (Instr.buildSlice 60 1 #[(0, .int .u8 z)]).run Tryz.prog w = .ok (.slice (some ⟨w.heap.size, 0, none⟩) 1 1) (w.alloc (.cells #[.int .u8 z] 5)) := by kernel_rfl
theorem refXored_any (key tag : List UInt8) (A : Option Addr) (n ca : Nat) (b : List UInt8) (w : World) (hk : key.length = 32) (ht : tag.length = 32) (hn : b.length = n) (hbn : n <= 8160) (hr : Rd w A b) :
  Calls Tryz.prog 40 #[.agg (hC key), .agg (hC tag), .slice A n ca] w fun e w' => ∃ v, e = .returned v /\ Own 5 w' w.heap.size v (mask key tag b) /\ Below w.heap.size w w' := by
 refine Calls.post fun Φ HΦ => ?_
 have k3 := (Row.new w 25 (hC key)).alloc (.cells (hC tag) 25)
 have k4 := Row.new (w.alloc (.cells (hC key) 25)) 25 (hC tag)
 have hL2 : Later w ((w.alloc (.cells (hC key) 25)).alloc (.cells (hC tag) 25)) := ((Later.refl w).alloc _).alloc _
 have hb3 := boxH key hk w
 have hb4 := boxH tag ht (w.alloc (.cells (hC key) 25))
 have hr2 := hr.later hL2
 simp only [World.size_alloc] at k4 hb4
 have HL2 := Lib.hid hL2
 clear hL2 hr
 go_enter Tryz.func40, Tryz.ntmps40
 go_upto_region 1 with (first
  | (guard_target =~ wpList _ _ _ (_ :: _) _ _; refine wpList_box rfl 25 (.tmp 0) rfl (.agg (hC key)) rfl hb3 ?_)
  | (guard_target =~ wpList _ _ _ (_ :: _) _ _; refine wpList_box rfl 25 (.tmp 1) rfl (.agg (hC tag)) rfl hb4 ?_)
  | fail)
 obtain ⟨g3, hg3⟩ : ∃ g, g = w.heap.size := ⟨_, rfl⟩
 obtain ⟨g4, hg4⟩ : ∃ g, g = w.heap.size + 1 := ⟨_, rfl⟩
 try simp only [World.size_alloc]
 rw [<- hg4] at k4 ⊢
 rw [<- hg3] at k3 ⊢
 clear hb3 hb4 hg3 hg4
 generalize (w.alloc (.cells (hC key) 25)).alloc (.cells (hC tag) 25) = w1 at *
 have hrk := rd_hash hk k3
 have hrt := rd_hash ht k4
 have hadd := fun W => run_str_add nameL tag (by rw [ht]; decide) W
 obtain ⟨nt, hnt⟩ : ∃ l, nameL ++ tag = l := ⟨_, rfl⟩
 have hntl : nt.length <= 100 := by rw [<- hnt, List.length_append, ht]; decide
 rw [hnt] at hadd
 have HX : Hid (mask key tag b = xorL b (Hm.expand key nt n)) := Lib.hid (by unfold mask; rw [hnt, hn])
 have hxl : (Hm.expand key nt n).length = n := Hm.expand_len key nt n
 obtain ⟨X, hX⟩ : ∃ x, Hm.expand key nt n = x := ⟨_, rfl⟩
 have hex : ∀ W, Later w1 W -> Calls Tryz.prog 88 #[.slice (some ⟨g3, 0, none⟩) 32 32, .string ⟨nt.toArray⟩, .int .i64 (n : Int)] W fun e w' => ∃ v, e = .returned (.tuple #[v, .int .i64 0]) /\ (∃ S c, v = .slice S n c /\ n <= c /\ c <= 9223372036854775807 /\ Rd w' S X /\ (∀ ad, S = some ad -> W.heap.size <= ad.block)) /\ Below W.heap.size W w' := fun W hL => by
  rw [<- hX]
  exact refExpand_any _ 32 32 key nt n W hk (by decide) (by decide) (by decide) (by omega) (hrk.later hL) hbn
 rw [hX] at hxl HX
 clear hX hnt
 refine wp_region_list [Pr.eq (.slice (some ⟨g3, 0, none⟩) 32 32), Pr.eq (.slice (some ⟨g4, 0, none⟩) 32 32), Pr.eq (.string ⟨tag.toArray⟩), Pr.eq (.string ⟨nt.toArray⟩), Pr.eq (.slice A n ca), Pr.eq (.int .i64 (n : Int)), Pr.tupB n X, Pr.tupB n X, Pr.slB n X, Pr.eq (.int .i64 0), Pr.slB n X, Pr.eq (.int .i64 0)] (by kernel_rfl) (by kernel_rfl) (by kernel_rfl) (by kernel_rfl) ⟨?_, ?_, ?_, ?_, ?_, ?_, ?_, ?_, ?_, ?_, ?_, ?_, trivial⟩ ?_
 ·exact fun ac W hL he => stepOk_want rfl (op_slice (W' := W) rfl (he.k 3) (rfl : _ = none) (rfl : _ = none) rfl (sliceHash W) rfl)
 ·exact fun ac W hL he => stepOk_want rfl (op_slice (W' := W) rfl (he.k 4) (rfl : _ = none) (rfl : _ = none) rfl (sliceHash W) rfl)
 ·exact fun ac W hL he => stepOk_want rfl (op_convert rfl (he.g 1 13) (run_string_rd W 60 9 5 _ 32 32 tag Tryz.underlying60 Tryz.underlying5 Tryz.underlying9 ht (hrt.later hL)) (Later.refl _) rfl)
 ·exact fun ac W hL he => stepOk_want rfl (op_binOp rfl rfl (he.g 2 14) (eqg_any rfl) (hadd W) rfl)
 ·exact fun ac W hL he => stepOk_want rfl (op_move rfl (he.k 2))
 ·exact fun ac W hL he => stepOk_want rfl (op_len Tryz.underlying60 rfl (he.g 4 16) rfl)
 ·intro ac W hL he; refine stepOk_want rfl ?_; have e0 : ac.eval (.tmp 12) = .slice (some ⟨g3, 0, none⟩) 32 32 := he.g 0 12; have e1 : ac.eval (.tmp 15) = .string ⟨nt.toArray⟩ := he.g 3 15; have e2 : ac.eval (.tmp 17) = .int .i64 (n : Int) := he.g 5 17; exact op_callF (vs := #[.slice (some ⟨g3, 0, none⟩) 32 32, .string ⟨nt.toArray⟩, .int .i64 (n : Int)]) rfl (by simp only [List.map_toArray, List.map_cons, List.map_nil, e0, e1, e2]) (enters_of Tryz.func88 (by kernel_rfl) rfl) ((hex W hL).mono fun e W' ⟨v, he', ho, hb⟩ => ⟨_, he', hb, by obtain ⟨S, c, e5, h5, _, h6, _⟩ := ho; exact ⟨S, c, by rw [e5], h5, h6⟩⟩)
 ·exact fun ac W hL he => stepOk_want rfl (op_move rfl (he.g 6 18))
 ·intro ac W hL he; refine stepOk_want rfl ?_; obtain ⟨S, c, e0, h1, h2⟩ : (Pr.tupB n X).R (ac.eval (.tmp 11)) W := he.g 7 11; exact op_extract rfl e0 rfl ⟨S, c, rfl, h1, h2⟩
 ·intro ac W hL he; refine stepOk_want rfl ?_; obtain ⟨S, c, e0, h1, h2⟩ : (Pr.tupB n X).R (ac.eval (.tmp 11)) W := he.g 7 11; exact op_extract rfl e0 rfl rfl
 ·exact fun ac W hL he => stepOk_want rfl (op_assign rfl (he.g 8 19))
 ·exact fun ac W hL he => stepOk_want rfl (op_assign rfl (he.g 9 20))
 intro xs W hL hx
 obtain ⟨S, cS, v10, hSc, hRS⟩ : (Pr.slB n X).R (xs 10) W := hx 10 (by decide)
 have v11 : xs 11 = .int .i64 0 := hx 11 (by decide)
 simp only [putL, Nat.reduceAdd, Act.put, List.setIfInBounds_toArray, List.set_cons_succ, List.set_cons_zero]
 rw [v10, v11]
 have hrb := hr2.later hL
 have HL3 := Lib.hid (HL2.out.step hL)
 have HRB := Lib.hid hrb
 have HRS := Lib.hid hRS
 have HN := Lib.hid hn
 have HXL := Lib.hid hxl
 clear hx v10 v11 hex hadd hrk hrt k3 k4 hr2 hRS hL hrb hn hxl
 go_wp2_with fail
 go_loopw [9, 10] (fun v t wr => ∃ k : Nat, k <= n /\ t = .int .i64 (k : Int) /\ Own 5 wr W.heap.size v (xorL (b.take k) (X.take k)) /\ Below W.heap.size W wr) (fun _ t _ => n - (intOf t).toNat)
 case atStart => exact ⟨0, by omega, rfl, by rw [List.take_zero]; exact Own.nil _ _ _, Below.refl _ _⟩
 case round =>
  obtain ⟨k, hk, rfl, hown, hbr⟩ := hrel
  by_cases hlt : k < n
  ·have hd : decide ((k : Int) < (n : Int)) = true := decide_eq_true (by omega)
   have hd' : decide (k < n) = true := decide_eq_true hlt
   have hkb : k < b.length := by rw [HN.out]; exact hlt
   have hkx : k < X.length := by rw [HXL.out]; exact hlt
   obtain ⟨bA, oA, rfl, hca⟩ := (HRB.out.below hbr).at_ hkb
   obtain ⟨bS, oS, rfl, hcs⟩ := (HRS.out.below hbr).at_ hkx
   have hnx : xorL (b.take (k + 1)) (X.take (k + 1)) = xorL (b.take k) (X.take k) ++ [b[k] ^^^ X[k]] := by
    unfold xorL
    rw [List.take_succ_eq_append_getElem hkb, List.take_succ_eq_append_getElem hkx, List.zipWith_append (by simp; omega)]
    rfl
   obtain ⟨x, hx⟩ : ∃ x, b[k] = x := ⟨_, rfl⟩
   obtain ⟨y, hy⟩ : ∃ y, X[k] = y := ⟨_, rfl⟩
   rw [hx, hy] at hnx
   rw [hx] at hca
   rw [hy] at hcs
   have hlen : (xorL (b.take k) (X.take k)).length <= 8160 := by simp [xorL]; omega
   have HNX := Lib.hid hnx
   have HOW := Lib.hid hown
   have hws := hbr.size
   clear hnx hx hy hown
   go_upto_region 6 with fail
   refine (wpIn_wide (n := 0)).1 ?_
   refine wpIn_region_last2 wide_wide [Pr.eq (u9), Pr.eq (.slice (some ⟨bA, oA, none⟩) n ca), Pr.eq (.int .i64 (k : Int)), Pr.eq (.pointer (some ⟨bA, oA + k, none⟩)), Pr.eq (.int .u8 (x.toNat : Int)), Pr.eq (.slice (some ⟨bS, oS, none⟩) n cS), Pr.eq (.int .i64 (k : Int)), Pr.eq (.pointer (some ⟨bS, oS + k, none⟩)), Pr.eq (.int .u8 (y.toNat : Int)), Pr.eq (.int .u8 ((x ^^^ y).toNat : Int)), Pr.slB 1 [x ^^^ y]] (by kernel_rfl) (by kernel_rfl) (by kernel_rfl) (by kernel_rfl) (by kernel_rfl) (by kernel_rfl) rfl rfl (by kernel_rfl) ⟨?_, ?_, ?_, ?_, ?_, ?_, ?_, ?_, ?_, ?_, ?_, trivial⟩ ?_
   ·exact fun ac W hL he => stepOk_want rfl (op_move rfl (he.k 9))
   ·exact fun ac W hL he => stepOk_want rfl (op_move rfl (he.k 2))
   ·exact fun ac W hL he => stepOk_want rfl (op_move rfl (he.k 10))
   ·exact fun ac W hL he => stepOk_want rfl (op_idx rfl (he.g 1 28) (he.g 2 29) (idx25b W hlt) rfl)
   ·exact fun ac W hL he => stepOk_want rfl (op_load rfl (he.g 3 30) (ld8_25 (hL.cell hca)) rfl)
   ·exact fun ac W hL he => stepOk_want rfl (op_move rfl (he.k 7))
   ·exact fun ac W hL he => stepOk_want rfl (op_move rfl (he.k 10))
   ·exact fun ac W hL he => stepOk_want rfl (op_idx rfl (he.g 5 32) (he.g 6 33) (idx25b W hlt) rfl)
   ·exact fun ac W hL he => stepOk_want rfl (op_load rfl (he.g 7 34) (ld8_25 (hL.cell hcs)) rfl)
   ·exact fun ac W hL he => stepOk_want rfl (op_binOp rfl (he.g 4 31) (he.g 8 35) eqg_xor (xor8 x y W) rfl)
   ·intro ac W hL he; refine stepOk_want rfl ?_; have e0 : ac.eval (.tmp 36) = .int .u8 ((x ^^^ y).toNat : Int) := he.g 9 36; exact op_buildSlice (vs := #[(0, .int .u8 ((x ^^^ y).toNat : Int))]) rfl (by simp only [List.map_toArray, List.map_cons, List.map_nil, e0]) (build1B25 _ W) (below_new W _) ⟨_, 1, rfl, Nat.le_refl _, Rd.byte1 rfl⟩
   intro xs2 W2 hL2 hx2 hk2 hgt
   have e1 := (hgt 0 27 (by decide) (by kernel_rfl)).trans (hx2 0 (by decide) : xs2 0 = u9)
   obtain ⟨A2, c2, v2, _, hrd2⟩ : (Pr.slB 1 [x ^^^ y]).R (xs2 10) W2 := hx2 10 (by decide)
   have e2 := (hgt 10 37 (by decide) (by kernel_rfl)).trans v2
   have hown2 := HOW.out.later hL2
   have hb2 : Below W.heap.size W W2 := hbr.trans (hL2.below.mono hws)
   have hLs := hL2.size
   clear hx2 hk2 hgt v2
   refine ⟨op_append_bytes (.tmp 27) (.tmp 37) 60 rfl W.heap.size 5 Tryz.underlying60 byteInfo u9 _ e1 hown2 A2 1 c2 _ e2 rfl hrd2 (by omega) (by omega) ?_⟩
   intro v3 W3 hown3 hg3 hat3
   rw [<- HNX.out] at hown3
   have hb3 : Below W.heap.size W W3 := hb2.grown hg3 (by omega) (fun j e => (hown2.at_ j e).1)
   refine op_assignK rfl ?_
   clear e1 e2 hown2 hrd2 hg3 hat3 hca hcs
   simp only [init2, pen2, last2, putL, Nat.reduceAdd, Act.put, List.setIfInBounds_toArray, List.set_cons_succ, List.set_cons_zero]
   go_wp2_with fail
   go_roundw
   case rel => exact ⟨k + 1, by omega, by go_num, hown3, hb3⟩
   case measure => simp [intOf]; omega
  ·obtain rfl : k = n := by omega
   have hd : decide ((k : Int) < (k : Int)) = false := decide_eq_false (by omega)
   have hd' : decide (k < k) = false := decide_eq_false (by omega)
   rw [List.take_of_length_le (by rw [HN.out]; exact Nat.le_refl _), List.take_of_length_le (by rw [HXL.out]; exact Nat.le_refl _), <- HX.out] at hown
   go_wp2_with fail
   exact HΦ.out _ _ ⟨_, rfl, hown.mono HL3.out.size, HL3.out.below.trans (hbr.mono HL3.out.size)⟩
end Go.Proofs.YtloiaaolnfimgaaGreat
