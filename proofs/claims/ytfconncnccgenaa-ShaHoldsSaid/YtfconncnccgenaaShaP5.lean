/- Walks: the hash of bytes, by the document. -/
import Derived.Test.YtfconncnccgenaaShaP4
import Derived.Test.YtfconncnccgenaaRun
import Derived.Test.YtfconncnccgenaaShaT8
set_option linter.unusedVariables false
set_option linter.unusedSimpArgs false
namespace Go.Proofs.Ytfconncnccgenaa
open Go.RowKit
theorem foldN_step (x : Sha.St) (b : List UInt8) (k : Nat) : Sha.foldN (k + 1) x b = Sha.blk (Sha.foldN k x b) ((b.drop (64 * k)).take 64) := by
  rw [Sha.foldN_add]
  rfl
theorem op_arr {P : Program} {Q : Exit → Act → World → Prop} {o : Oper} {a : Act} {W : World} {R : Value → World → Prop} {t : TypeId} {x : Operand} {vx v : Value} (ho : o.op = .sliceToArrayPointer t x) (hx : a.eval x = vx) (hr : (Instr.arrayAt t vx).run P W = .ok v W) (h : R v W) : o.wp P a W (fun a' W' => ∃ v, a' = a.put o.dst v ∧ Later W W' ∧ R v W') Q := by
  refine op_value (v := v) (W' := W) ?_ (Later.refl _) h
  unfold execOp
  simp only [ho, hx, hr, Sem.run_bind, Sem.run_pure, Result.andThen_ok]
theorem run_arr64 {A : Option Addr} {c : Nat} (W : World) : (Instr.arrayAt 42 (.slice A 64 c)).run Try.prog W = .ok (.pointer A) W := by
  simp [Instr.arrayAt, run_underlying Try.underlying42]
theorem load_rd64 {b o : Nat} {l : List UInt8} {W : World} (hl : l.length = 64) (hr : Rd W (some ⟨b, o, none⟩) l) : (Instr.loadAt 42 (.pointer (some ⟨b, o, none⟩))).run Try.prog W = .ok (.agg (l.map byteV).toArray) W := by
  refine run_loadAt_mid W b o 42 (l.map byteV) _ (fun j v hv => ?_) Try.underlying42 rfl (by rw [List.length_map, hl]; exact infoB64)
  have hj : j < l.length := by
    rcases Nat.lt_or_ge j l.length with h | h
    · exact h
    · rw [List.getElem?_eq_none (by simpa using h)] at hv; cases hv
  obtain ⟨b', o', e, hc⟩ := hr.at_ hj
  injection e with e
  injection e with e1 e2
  subst e1 e2
  rw [hc, ← hv, List.getElem?_map, List.getElem?_eq_getElem hj]
  rfl
theorem Rd.take {w : World} {A : Option Addr} {l : List UInt8} (h : Rd w A l) (k : Nat) : Rd w A (l.take k) := fun hne => by
  obtain ⟨b, o, e, hc⟩ := h (by intro e; subst e; simp at hne)
  refine ⟨b, o, e, fun i hi => ?_⟩
  rw [List.getElem_take]
  exact hc i (by rw [List.length_take] at hi; omega)
set_option maxHeartbeats 1000000 in
set_option maxRecDepth 100000 in
theorem refSum_any (A : Option Addr) (n ca : Nat) (l : List UInt8) (w : World) (hn : l.length = n) (hm : n ≤ 100000000) (hr : Rd w A l) :
    Calls Try.prog 11 #[.slice A n ca] w fun e w' => e = .returned (.agg (hC (Sha.sum l))) ∧ Below w.heap.size w w' := by
  have hpl := Sha.padded_len l
  have hpm : (Sha.padded l).length ≤ 100000200 := by
    simp only [Sha.padded, List.length_append, List.length_cons, Sha.zeros, List.length_replicate, Sha.told_len, Sha.noughts, hn]
    omega
  obtain ⟨pd, hpd⟩ : ∃ y, Sha.padded l = y := ⟨_, rfl⟩
  have hsum : Sha.sum l = Sha.toldSt (Sha.foldN (pd.length / 64) Sha.first pd) := by rw [← hpd]; rfl
  obtain ⟨m, hmm⟩ : ∃ m, pd.length = 64 * m := ⟨pd.length / 64, by rw [hpd] at hpl; omega⟩
  rw [hmm, Nat.mul_div_cancel_left _ (by decide)] at hsum
  rw [hpd] at hpm
  have HPD := Lib.hid hpd
  have HS := Lib.hid hsum
  have HM := Lib.hid hmm
  have HN := Lib.hid hn
  have hfz : Sha.foldN 0 Sha.first pd = Sha.first := rfl
  have HFZ := Lib.hid hfz
  clear hpl hpd hsum hmm hn hfz
  go_enter Try.func11, Try.ntmps11
  go_upto_region 2 with (first
    | (with_reducible refine wpList_alloc rfl 26 rfl (allocH _) ?_)
    | (with_reducible refine wpList_alloc rfl 41 rfl (alloc8 _) ?_)
    | (go_at_call 31; refine (refFirst_any _).mono ?_; rintro e w1 ⟨rfl, rfl⟩)
    | (refine wpList_store rfl 41 (.tmp 3) (.tmp 5) rfl (.pointer (some ⟨_, 0, none⟩)) (.agg (stC Sha.first 0)) rfl rfl (storeS Sha.first _) ?_)
    | fail)
  obtain ⟨g, hg⟩ : ∃ y, y = w.heap.size := ⟨_, rfl⟩
  have k2 : Row (((w.alloc (.cells (hC []) 26)).alloc (.cells (stC Sha.first 0) 41)).alloc (.cells (stC Sha.first 0) 41)) g 26 (hC []) := ((Row.newAt hg.symm).alloc _).alloc _
  have k3 : Row (((w.alloc (.cells (hC []) 26)).alloc (.cells (stC Sha.first 0) 41)).alloc (.cells (stC Sha.first 0) 41)) (g + 1 + 1) 41 (stC Sha.first 0) := Row.newAt (by simp only [World.size_alloc]; omega)
  have kb : Later w (((w.alloc (.cells (hC []) 26)).alloc (.cells (stC Sha.first 0) 41)).alloc (.cells (stC Sha.first 0) 41)) := (((Later.refl w).alloc _).alloc _).alloc _
  simp only [World.size_alloc]
  rw [← hg]
  have HG := Lib.hid hg
  clear hg
  generalize ((w.alloc (.cells (hC []) 26)).alloc (.cells (stC Sha.first 0) 41)).alloc (.cells (stC Sha.first 0) 41) = w1 at *
  have hpc := refPadded_any A n ca l w1 HN.out hm (hr.later kb)
  go_wp2_with (first
    | (go_at_call 28; refine hpc.mono ?_; clear hpc; rintro e w2 ⟨v, rfl, hown, hb2⟩)
    | fail)
  obtain ⟨A2, c2, rfl, hc1, hc2, hrd2⟩ := hown.slice
  rw [HPD.out] at hrd2 hc1 ⊢
  unfold maxLen at hc2
  have j2 := k2.later hb2
  have j3 := k3.later hb2
  have jb : Below w.heap.size w w2 := kb.call hb2
  have hA2 : ∀ b o, A2 = some ⟨b, o, none⟩ → b ≠ g + 1 + 1 := fun b o e => by
    have h1 := (hown.at_ b (by rw [e]; rfl)).1
    have h2 := k3.lt
    omega
  rw [HM.out] at hc1 ⊢
  clear hown k2 k3 kb hb2
  go_loopw [4] (fun s wr => ∃ k Ak ck, k ≤ m ∧ s = .slice Ak (64 * (m - k)) ck ∧ 64 * (m - k) ≤ ck ∧ ck ≤ 9223372036854775807 ∧ Rd wr Ak (pd.drop (64 * k)) ∧ (∀ b o, Ak = some ⟨b, o, none⟩ → b ≠ g + 1 + 1) ∧ Row wr g 26 (hC []) ∧ Row wr (g + 1 + 1) 41 (stC (Sha.foldN k Sha.first pd) 0) ∧ Below w.heap.size w wr) (fun s _ => lenV s)
  case atStart => exact ⟨0, A2, c2, by omega, rfl, by omega, hc2, by rw [Nat.mul_zero, List.drop_zero]; exact hrd2, hA2, j2, by rw [HFZ.out]; exact j3, jb⟩
  case round =>
    obtain ⟨k, Ak, ck, hk, rfl, hck, hcm, hrk, hAk, h2, h3, hb⟩ := hrel
    clear hrd2 hA2 j2 j3 jb hc1 hc2
    by_cases hlt : k < m
    · have hst := foldN_step Sha.first pd k
      have hlen : (pd.drop (64 * k)).length = 64 * (m - k) := by rw [List.length_drop, HM.out]; omega
      obtain ⟨b, o, rfl, _⟩ := hrk.at_ (k := 0) (by omega)
      have hrb := hrk.take 64
      have hB64 : ((pd.drop (64 * k)).take 64).length = 64 := by rw [List.length_take]; omega
      have HST := Lib.hid hst
      have HB64 := Lib.hid hB64
      clear hst hB64
      generalize (pd.drop (64 * k)).take 64 = B at *
      generalize Sha.foldN k Sha.first pd = X at *
      obtain ⟨nk, hnk⟩ : ∃ y, 64 * (m - k) = y := ⟨_, rfl⟩
      rw [hnk] at hlen hck ⊢
      have hnk0 : 64 ≤ nk := by omega
      have HNK := Lib.hid hnk
      have HLEN := Lib.hid hlen
      clear hnk hlen
      have hsl : ∀ w : World, (Instr.sliceAt 23 (.slice (some ⟨b, o, none⟩) nk ck) none (some (.int .i64 64)) none).run Try.prog w = .ok (.slice (some ⟨b, o, none⟩) 64 ck) w :=
        run_slice_upto (k := 64) Try.underlying23 (info5 : ByteInfo Try.prog 5) (by omega)
      obtain ⟨D, hD, hDr, hDb⟩ := run_slice_from2 (P := Try.prog) (A := some ⟨b, o, none⟩) (n := nk) (ca := ck) (k := 64) Try.underlying23 (info5 : ByteInfo Try.prog 5) hnk0 hck
      have hbne := hAk b o rfl
      have hbne2 : ∀ b' o', D = some ⟨b', o', none⟩ → b' ≠ g + 1 + 1 := fun b' o' e => by
        obtain ⟨ad', e1, e2⟩ := hDb _ e
        injection e1 with e1
        subst e1
        have e3 : b = b' := e2
        rw [← e3]; exact hbne
      have hbs := hb.size
      go_wp2_with fail
      refine (wpIn_wide (n := 0)).1 ?_
      refine wpIn_region_last wide_wide [Pr.eq (.agg (stC X 0)), Pr.eq (.slice (some ⟨b, o, none⟩) nk ck), Pr.eq (.slice (some ⟨b, o, none⟩) 64 ck), Pr.eq (.pointer (some ⟨b, o, none⟩)), Pr.eq (.agg (B.map byteV).toArray), Pr.eq (.agg (stC (Sha.blk X B) 0))] (by kernel_rfl) (by kernel_rfl) (by kernel_rfl) (by kernel_rfl) (by kernel_rfl) (by kernel_rfl) rfl ⟨?_, ?_, ?_, ?_, ?_, ?_, trivial⟩ ?_
      · exact fun ac W hL he => stepOk_want rfl (op_load rfl (he.keep (.tmp 3) (by kernel_rfl)) (run_load_row (h3.later hL) Try.underlying41 rfl (by rw [stC_size]; exact info8)) rfl)
      · exact fun ac W hL he => stepOk_want rfl (op_move rfl (he.keep (.tmp 4) (by kernel_rfl)))
      · exact fun ac W hL he => stepOk_want rfl (op_slice (W' := W) rfl (he.get 1 14 (by kernel_rfl) rfl) rfl rfl rfl (hsl W) rfl)
      · exact fun ac W hL he => stepOk_want rfl (op_arr rfl (he.get 2 15 (by kernel_rfl) rfl) (run_arr64 W) rfl)
      · exact fun ac W hL he => stepOk_want rfl (op_load rfl (he.get 3 16 (by kernel_rfl) rfl) (load_rd64 HB64.out (hrb.later hL)) rfl)
      · intro ac W hL he; refine stepOk_want rfl ?_; have e0 : ac.eval (.tmp 13) = (.agg (stC X 0)) := (he.get 0 13 (by kernel_rfl) rfl); have e1 : ac.eval (.tmp 17) = (.agg (B.map byteV).toArray) := (he.get 4 17 (by kernel_rfl) rfl); exact op_callF (vs := #[.agg (stC X 0), .agg (B.map byteV).toArray]) rfl (by simp only [List.map_toArray, List.map_cons, List.map_nil, e0, e1]) (enters_of Try.func20 (by kernel_rfl) rfl) ((refPress_any X B W HB64.out).mono fun e W' ⟨he', hb⟩ => ⟨_, he', hb, rfl⟩)
      · intro xs W hL hx hk hg
        have e2 := hg 5 18 (by decide) (by kernel_rfl)
        have v5 : xs 5 = .agg (stC (Sha.blk X B) 0) := hx 5 (by decide)
        rw [v5] at e2
        have e1 := hk (.tmp 3) (by kernel_rfl)
        obtain ⟨W', hstr, hr', hg'⟩ := run_put_row (P := Try.prog) (T := 41) (h3.later hL) (vs := stC (Sha.blk X B) 0) (by rw [stC_size, stC_size]) (by rw [stC_size]; exact info8) (stC_one _ _)
        refine last_store rfl rfl e1 e2 hstr ?_
        clear hx hk hg e1 e2 v5 hstr
        have q2 := (h2.later hL).grown hg' (by intro e; injection e with e; omega)
        have qb := (hb.trans (hL.mono hbs)).grown hg' (by have := hL.size; omega) (fun j e => by cases e; have := HG.out; omega)
        have qr := (hrk.later hL).grown hg' (fun b' o' e _ => by injection e with e; injection e with e1 e2; subst e1; intro h; injection h with h; exact hbne h)
        have qd := hDr W' _ HLEN.out qr
        rw [← HST.out] at hr'
        simp only [initL, putL, Nat.reduceAdd, Act.put, List.setIfInBounds_toArray, List.set_cons_succ, List.set_cons_zero]
        have hD' : ∀ w : World, (Instr.slice 23 (.slice (some ⟨b, o, none⟩) nk ck) (some (.int .i64 64)) none none).run Try.prog w = .ok (.slice D (nk - 64) (ck - 64)) w := hD
        go_wp2_with fail
        go_roundw
        case rel => exact ⟨k + 1, D, ck - 64, by omega, by rw [show nk - 64 = 64 * (m - (k + 1)) from by have := HNK.out; omega], by have := HNK.out; omega, by omega, by rw [show 64 * (k + 1) = 64 * k + 64 from by omega, ← List.drop_drop]; exact qd, fun b' o' e => hbne2 b' o' e, q2, hr', qb⟩
        case measure => simp [lenV]; omega
    · obtain rfl : k = m := by omega
      rw [Nat.sub_self, Nat.mul_zero]
      have hs32 := hC_size (Sha.sum l) (by rw [Sha.sum_len]; omega)
      have hld := run_load_row (P := Try.prog) (T := 41) h3 Try.underlying41 rfl (by rw [stC_size]; exact info8)
      have htold := fun W => refTold_any (Sha.foldN k Sha.first pd) W
      have hwg : w.heap.size ≤ g := by have := HG.out; omega
      rw [← HS.out] at htold
      have HS32 := Lib.hid hs32
      clear hs32 h3
      generalize Sha.foldN k Sha.first pd = X at *
      obtain ⟨sm, hsm⟩ : ∃ y, y = Sha.sum l := ⟨_, rfl⟩
      rw [← hsm] at htold HS32
      have HSM := Lib.hid hsm
      clear hsm
      go_wp2_with (first
        | (refine wpList_load rfl 41 (.tmp 3) rfl (.pointer (some ⟨g + 1 + 1, 0, none⟩)) rfl hld ?_)
        | (go_at_call 21; refine (htold _).mono ?_; clear htold; rintro e w7 ⟨rfl, hb7⟩; obtain ⟨W', hst, hr', hg'⟩ := run_put_row (P := Try.prog) (T := 26) (h2.belowAll hb7) (vs := hC sm) (by rw [HS32.out]; rfl) (by rw [HS32.out]; exact infoH) (hC_one _))
        | (refine wpList_store rfl 26 (.tmp 2) (.tmp 20) rfl (.pointer (some ⟨g, 0, none⟩)) (.agg (hC sm)) rfl rfl hst ?_)
        | fail)
      refine bodyPost_ret (results_cell_row rfl _ _ g 26 (hC sm) (0, 0) _ rfl hr' Try.underlying26 rfl (by rw [HS32.out]; exact infoH)) rfl ⟨by rw [HSM.out], (hb.trans (hb7.mono hb.size)).grown hg' (by have := hb.size; have := Below.size hb7; omega) (fun j e => by cases e; exact hwg)⟩
end Go.Proofs.Ytfconncnccgenaa
