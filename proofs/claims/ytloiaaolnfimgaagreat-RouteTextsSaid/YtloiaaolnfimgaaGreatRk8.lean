/- Walks, route: the bytes of digits. -/
import Derived.Test.YtloiaaolnfimgaaGreatRk7
import Derived.Test.YtloiaaolnfimgaaGreatRyp
set_option linter.unusedVariables false
set_option linter.unusedSimpArgs false
namespace Go.Proofs.YtloiaaolnfimgaaGreat
open Go.RowKit Rt
theorem rep_eq (c : Nat) : Lib.repeatL [48] c = List.replicate c (48 : UInt8) := by
  induction c with
  | zero => rfl
  | succ c ih => rw [Lib.repeatL, ih, List.replicate_succ]; rfl
theorem subN {x y : Nat} (h : y ≤ x) (hx : x < 9223372036854775808) {W : World} : (binOp .sub 3 (.int .i64 (x : Int)) (.int .i64 (y : Int))).run Tryz.prog W = .ok (.int .i64 ((x - y : Nat) : Int)) W := by
  have h' : (binOp .sub 3 (.int .i64 (x : Int)) (.int .i64 (y : Int))).run Tryz.prog W = .ok (.int .i64 (IntKind.i64.wrap ((x : Int) - (y : Int)))) W := by kernel_rfl
  rw [h', show (x : Int) - (y : Int) = ((x - y : Nat) : Int) from by omega, IntWalk.i64_in _ (by omega)]
theorem rt_hp_len (l : List UInt8) (i : Nat) : (hp l i).length = 32 := by
  induction i with
  | zero => simp [hp, Sha.zeros]
  | succ i ih => rw [hp, List.length_set, ih]
theorem rt_parseB_len (l : List UInt8) : (parseB l).length ≤ 32 := by
  unfold parseB
  split
  · rw [rt_hp_len]; omega
  · simp
theorem run_arr_to (g k : Nat) (h : k ≤ 32) (W : World) : (Instr.sliceAt 25 (.pointer (some ⟨g, 0, none⟩)) none (some (.int .i64 (k : Int))) none).run Tryz.prog W = .ok (.slice (some ⟨g, 0, none⟩) k 32) W := by
  have h1 : (k : Int) ≤ 32 := by omega
  have h2 : (0 : Int) ≤ (k : Int) := by omega
  go_simp
def okHex (s : List UInt8) : Bool := decide (s.length % 2 = 0) && hexOk s
def is32 (cs : Array Value) : Prop := cs.size = 32
/-- What bytesOf does. -/
def RB (s : List UInt8) (w : World) (e : Ending) (w' : World) : Prop :=
  Below w.heap.size w w' ∧ ((okHex s = true ∧ ∃ v, e = .returned v ∧ Own 5 w' w.heap.size v (unhex s)) ∨ (okHex s = false ∧ e = .panicked (gaveUp 351)))
set_option maxRecDepth 100000 in
set_option maxHeartbeats 4000000 in
theorem bytesOf_any (s : List UInt8) (w : World) (hs : s.length ≤ 300) : Calls Tryz.prog 68 #[.string ⟨s.toArray⟩] w (RB s w) := by
  refine Calls.post fun Φ HΦ => ?_
  have hsz : (⟨s.toArray⟩ : ByteArray).size = s.length := rfl
  by_cases hev : s.length % 2 = 0
  case neg =>
    have hd : (((s.length : Int) % 2) == 0) = false := by simp; omega
    have hno : okHex s = false := by unfold okHex; rw [decide_eq_false hev]; rfl
    go_enter Tryz.func68, Tryz.ntmps68
    go_wp2_with (first
      | (go_at_call 32; refine (rmust_no _ _).mono ?_; rintro e w7 ⟨h7, rfl⟩; obtain rfl := h7.symm)
      | fail)
    exact ⟨rfl, HΦ.out _ _ ⟨Below.refl _ _, .inr ⟨hno, rfl⟩⟩⟩
  have hd : (((s.length : Int) % 2) == 0) = true := by simp; omega
  go_enter Tryz.func68, Tryz.ntmps68
  go_wp2_with (first
    | (go_at_call 32; refine (rmust_ok _ _).mono ?_; rintro e w7 ⟨h7, rfl⟩; obtain rfl := h7.symm)
    | fail)
  go_loopw [0, 2] (fun sv ov wr => ∃ p : Nat, p ≤ s.length ∧ p % 2 = 0 ∧ sv = .string ⟨(s.drop p).toArray⟩ ∧ Own 5 wr w.heap.size ov (unhex (s.take p)) ∧ hexOk (s.take p) = true ∧ Below w.heap.size w wr) (fun sv _ _ => match sv with | .string b => b.size | _ => 0)
  case atStart => exact ⟨0, by omega, rfl, by rw [List.drop_zero], Own.nil _ _ _, rfl, Below.refl _ _⟩
  case round =>
    obtain ⟨p, hpp, hp2, rfl, hown, hok, hb⟩ := hrel
    obtain ⟨r, hr⟩ : ∃ r, s.drop p = r := ⟨_, rfl⟩
    have hrl : r.length = s.length - p := by rw [← hr, List.length_drop]
    rw [hr]
    have hszr : (⟨r.toArray⟩ : ByteArray).size = r.length := rfl
    by_cases h0 : r.length = 0
    · have hdd : decide ((r.length : Int) > 0) = false := decide_eq_false (by omega)
      have hdd' : decide (0 < (r.length : Int)) = false := decide_eq_false (by omega)
      have hdn : decide (0 < r.length) = false := decide_eq_false (by omega)
      have hall : s.take p = s := List.take_of_length_le (by omega)
      rw [hall] at hown hok
      have hyes : okHex s = true := by unfold okHex; rw [decide_eq_true hev, hok]; rfl
      go_wp2_with fail
      exact HΦ.out _ _ ⟨hb, .inl ⟨hyes, _, rfl, hown⟩⟩
    · obtain ⟨Ao, co, rfl, -, -, -⟩ := hown.slice
      have hdd : decide ((r.length : Int) > 0) = true := decide_eq_true (by omega)
      have hdd' : decide (0 < (r.length : Int)) = true := decide_eq_true (by omega)
      have hdn : decide (0 < r.length) = true := decide_eq_true (by omega)
      obtain ⟨n, hn⟩ : ∃ n, min r.length 64 = n := ⟨_, rfl⟩
      have hmin : min (r.length : Int) 64 = (n : Int) := by omega
      have HRL := Lib.hid hrl
      have hn64 : n ≤ 64 ∧ n ≤ r.length ∧ n % 2 = 0 ∧ 0 < n := by omega
      obtain ⟨c, hc⟩ : ∃ c, r.take n = c := ⟨_, rfl⟩
      have hcl : c.length = n := by rw [← hc, List.length_take]; omega
      obtain ⟨t, ht⟩ : ∃ t, c ++ List.replicate (64 - n) (48 : UInt8) = t := ⟨_, rfl⟩
      have htl : t.length = 64 := by rw [← ht]; simp; omega
      have hsl := fun W => run_str_to r n hn64.2.1 (by omega) W
      rw [hc] at hsl
      have hadd := fun W => run_str_add c (List.replicate (64 - n) 48) (by rw [hcl, List.length_replicate]; omega) W
      rw [ht] at hadd
      have hrep : ∀ W, Calls Tryz.prog 117 #[.string ⟨#[48]⟩, .int .i64 ((64 - n : Nat) : Int)] W fun e w' => e = .returned (.string ⟨(List.replicate (64 - n) (48 : UInt8)).toArray⟩) ∧ Below W.heap.size W w' := fun W => by
        have h := Tryz.strings_Repeat ⟨#[48]⟩ (64 - n) W (by omega) (by show 1 * (64 - n) ≤ _; omega)
        rw [show (⟨#[48]⟩ : ByteArray).data.toList = [48] from rfl, rep_eq] at h
        exact h
      have hps := fun W => parse_any ⟨t.toArray⟩ W (by show t.length ≤ 1000000; omega)
      rw [show (⟨t.toArray⟩ : ByteArray).data.toList = t from rfl] at hps
      have hpl := rt_parseB_len t
      obtain ⟨H, hH⟩ : ∃ H, parseB t = H := ⟨_, rfl⟩
      obtain ⟨er, her⟩ : ∃ e, parseE t = e := ⟨_, rfl⟩
      rw [hH, her] at hps
      rw [hH] at hpl
      have HR := Lib.hid hr
      have HH := Lib.hid hH
      have HE := Lib.hid her
      have HC := Lib.hid hc
      have HT := Lib.hid ht
      have hwr := hb.size
      have hrl300 : r.length ≤ 300 := by omega
      clear hr hH her hc ht hrl
      go_upto_region 4 with fail
      refine (wpIn_wide (n := 0)).1 ?_
      refine wpIn_region_put wide_wide [Pr.eq (.string ⟨r.toArray⟩), Pr.eq (.int .i64 (n : Int)), Pr.eq (.string ⟨c.toArray⟩), Pr.eq (.int .i64 (n : Int)), Pr.eq (.int .i64 ((64 - n : Nat) : Int)), Pr.eq (.string ⟨(List.replicate (64 - n) (48 : UInt8)).toArray⟩), Pr.eq (.string ⟨t.toArray⟩), Pr.eq (.tuple #[.agg (hC H), .int .i64 er]), Pr.eq (.tuple #[.agg (hC H), .int .i64 er]), Pr.eq (.agg (hC H)), Pr.eq (.int .i64 er), Pr.newT wr.heap.size 25 is32, Pr.any] 11 12 25 is32 (fun cs W => cs = hC H) (fun cs W W' h _ => h) rfl rfl ⟨putOk_eq, putOk_eq, putOk_eq, putOk_eq, putOk_eq, putOk_eq, putOk_eq, putOk_eq, putOk_eq, putOk_eq, putOk_eq, putOk_new, putOk_any, trivial⟩ (by kernel_rfl) (by kernel_rfl) (by kernel_rfl) (by kernel_rfl) (by kernel_rfl) (by kernel_rfl) rfl (by decide) (by kernel_rfl) ⟨?_, ?_, ?_, ?_, ?_, ?_, ?_, ?_, ?_, ?_, ?_, ?_, ?_, trivial⟩ ?_
      · exact putStep_val (by decide) fun ac W hL he => stepOk_want rfl (op_move rfl (he.keep (.tmp 0) (by kernel_rfl)))
      · exact putStep_val (by decide) fun ac W hL he => stepOk_want rfl (op_move rfl (he.keep (.tmp 3) (by kernel_rfl)))
      · exact putStep_val (by decide) fun ac W hL he => stepOk_want rfl (op_slice (W' := W) rfl (he.get 0 18 (by kernel_rfl) rfl) (rfl : _ = none) (congrArg some (he.get 1 19 (by kernel_rfl) rfl)) rfl (hsl W) rfl)
      · exact putStep_val (by decide) fun ac W hL he => stepOk_want rfl (op_move rfl (he.keep (.tmp 3) (by kernel_rfl)))
      · exact putStep_val (by decide) fun ac W hL he => stepOk_want rfl (op_binOp rfl rfl (he.get 3 21 (by kernel_rfl) rfl) (eqg_any rfl) (subN (x := 64) (y := n) (by omega) (by omega)) rfl)
      · refine putStep_val (by decide) fun ac W hL he => ?_; refine stepOk_want rfl ?_; have e22 : ac.eval (.tmp 22) = .int .i64 ((64 - n : Nat) : Int) := he.get 4 22 (by kernel_rfl) rfl; exact op_callF (vs := #[.string ⟨#[48]⟩, .int .i64 ((64 - n : Nat) : Int)]) rfl (by simp only [List.map_toArray, List.map_cons, List.map_nil, e22]; rfl) (enters_of Tryz.func117 (by kernel_rfl) rfl) ((hrep W).mono fun e W' ⟨he', hb⟩ => ⟨_, he', hb, rfl⟩)
      · exact putStep_val (by decide) fun ac W hL he => stepOk_want rfl (op_binOp rfl (he.get 2 20 (by kernel_rfl) rfl) (he.get 5 23 (by kernel_rfl) rfl) (eqg_any rfl) (hadd W) rfl)
      · refine putStep_val (by decide) fun ac W hL he => ?_; refine stepOk_want rfl ?_; have e0 : ac.eval (.tmp 24) = .string ⟨t.toArray⟩ := (he.get 6 24 (by kernel_rfl) rfl); exact op_callF (vs := #[.string ⟨t.toArray⟩]) rfl (by simp only [List.map_toArray, List.map_cons, List.map_nil, e0]) (enters_of Tryz.func116 (by kernel_rfl) rfl) (((hps W)).mono fun e W' ⟨he', hb⟩ => ⟨_, he', hb, rfl⟩)
      · exact putStep_val (by decide) fun ac W hL he => stepOk_want rfl (op_move rfl (he.get 7 25 (by kernel_rfl) rfl))
      · exact putStep_val (by decide) fun ac W hL he => stepOk_want rfl (op_extract rfl (he.get 8 17 (by kernel_rfl) rfl) rfl rfl)
      · exact putStep_val (by decide) fun ac W hL he => stepOk_want rfl (op_extract rfl (he.get 8 17 (by kernel_rfl) rfl) rfl rfl)
      · exact putStep_val (by decide) fun ac W hL he => stepOk_want rfl (op_alloc rfl (allocH W) (below_new W _) ⟨W.heap.size, _, rfl, hL.size, hC_size [] (by simp), Row.new W _ _⟩)
      · refine putStep_put (.tmp 26) 4 rfl rfl rfl rfl (by kernel_rfl) fun ac W g cs hL he hg hz hr => ?_; have ey := (he.get 9 26 (by kernel_rfl) rfl); rw [show ac.eval (.tmp 26) = .agg (hC H) from ey]; obtain ⟨W', s1, s2, s3⟩ := run_put_row (P := Tryz.prog) (T := 25) (vs := hC H) hr (by rw [hC_size H hpl, hz]) (by rw [hC_size H hpl]; exact infoH) (hC_one H); exact ⟨W', _, s1, s2, hC_size H hpl, s3, rfl⟩
      intro xs W hL hx hput hk hget
      obtain ⟨g, cs, e4, hg, kg, rfl⟩ := hput
      have v10 : xs 10 = .int .i64 er := hx 10 (by decide)
      refine last_assign rfl ((hget 10 27 (by decide) rfl).trans v10) ?_
      have hown' := hown.later hL
      have hbW := hb.trans (hL.below.mono hb.size)
      clear hx hk hget hown
      simp only [initL, lastL, putL, Nat.reduceAdd, Act.put, List.setIfInBounds_toArray, List.set_cons_succ, List.set_cons_zero]
      rw [e4]
      have hiff := hash_iff c (by omega)
      rw [hcl, HT.out] at hiff
      have hwW := hbW.size
      by_cases hcx : hexOk c = true
      · have hish : isHash t := hiff.2 hcx
        have e0 : er = 0 := by rw [← HE.out]; exact (if_pos hish)
        have eH : H = hp t 64 := by rw [← HH.out]; exact (if_pos hish)
        have hHl : H.length = 32 := by rw [eH, rt_hp_len]
        have hrd : Rd W (some ⟨g, 0, none⟩) (H.take (n / 2)) := (rd_hash hHl kg).take (n / 2)
        have hHt : H.take (n / 2) = unhex c := by
          have := hp_take c (by omega) (by omega)
          rw [hcl, HT.out] at this
          rw [eH, this]
        rw [hHt] at hrd
        have hul : (unhex c).length = n / 2 := by rw [unhex_len, hcl]
        have hol : (unhex (s.take p)).length ≤ 300 := by rw [unhex_len, List.length_take]; omega
        have hq : IntKind.i64.wrap ((n : Int).tdiv 2) = ((n / 2 : Nat) : Int) := by
          rw [show (n : Int).tdiv 2 = ((n / 2 : Nat) : Int) from by rw [Int.tdiv_eq_ediv_of_nonneg (by omega)]; omega]
          exact IntWalk.i64_in _ (by omega)
        have hsa := run_arr_to g (n / 2) (by omega) W
        have hnh : n / 2 ≤ 32 := by omega
        obtain ⟨hf, hhf⟩ : ∃ h, n / 2 = h := ⟨_, rfl⟩
        rw [hhf] at hq hsa hul hnh
        have hq2 : (n : Int) / 2 = (hf : Int) := by omega
        clear hhf
        have hfr := fun W => run_str_from r n hn64.2.1 (by omega) W
        subst e0
        clear hiff hps hrep hadd hsl
        go_wp2_with (first
          | (go_at_call 32; refine (rmust_ok _ _).mono ?_; rintro e w7 ⟨h7, rfl⟩; obtain rfl := h7.symm)
          | (guard_target =~ wpList _ _ _ (_ :: _) _ _; refine wpList_append_bytes rfl (.tmp 31) (.tmp 34) 60 rfl w.heap.size 5 Tryz.underlying60 byteInfo _ (unhex (s.take p)) rfl hown' (some ⟨g, 0, none⟩) hf 32 (unhex c) rfl hul hrd (by omega) (by omega) fun v9 w9 hown9 hg9 _ => ?_)
          | fail)
        have htk : s.take (p + n) = s.take p ++ c := by rw [List.take_add, HR.out, HC.out]
        have hpl2 : (s.take p).length % 2 = 0 := by rw [List.length_take]; omega
        go_roundw
        case rel =>
          have hrL := HRL.out
          refine ⟨p + n, by omega, by omega, ?_, ?_, ?_, Below.grown hbW hg9 hwW (fun j e => (hown'.at_ j e).1)⟩
          · rw [← HR.out, List.drop_drop]
          · rw [htk, unhex_app _ _ hpl2]
            exact hown9
          · rw [htk]
            unfold hexOk at hok hcx ⊢
            rw [List.all_append, hok, hcx]
            rfl
        case measure =>
          show (⟨(r.drop n).toArray⟩ : ByteArray).size < (⟨r.toArray⟩ : ByteArray).size
          show (r.drop n).length < r.length
          rw [List.length_drop]
          omega
      · have hish : ¬ isHash t := fun h => hcx (hiff.1 h)
        have e0 : er = 110 := by rw [← HE.out]; exact (if_neg hish)
        have hno : okHex s = false := by
          unfold okHex
          have : hexOk s = false := by
            have h1 : hexOk c = false := by simpa using hcx
            unfold hexOk at h1 ⊢
            rw [List.all_eq_false] at h1 ⊢
            obtain ⟨x, hx1, hx2⟩ := h1
            rw [← HC.out, ← HR.out] at hx1
            exact ⟨x, List.mem_of_mem_drop (List.mem_of_mem_take hx1), hx2⟩
          rw [this]; simp
        subst e0
        clear hiff
        go_wp2_with (first
          | (go_at_call 32; refine (rmust_no _ _).mono ?_; rintro e w7 ⟨h7, rfl⟩; obtain rfl := h7.symm)
          | fail)
        exact ⟨rfl, HΦ.out _ _ ⟨hbW, .inr ⟨hno, rfl⟩⟩⟩
end Go.Proofs.YtloiaaolnfimgaaGreat
