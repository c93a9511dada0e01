/- Walks: the document's join and tag. -/
import Derived.Test.YtbjclmfhmdalkaaHm3
set_option linter.unusedVariables false
set_option linter.unusedSimpArgs false
namespace Go.Proofs.Ytbjclmfhmdalkaa
open Go.RowKit
set_option maxRecDepth 100000 in
set_option maxHeartbeats 1000000 in
theorem refJoin_any (A : Option Addr) (n ca : Nat) (a : List UInt8) (B : Option Addr) (m cb : Nat) (b : List UInt8) (w : World) (hn : a.length = n) (hm : b.length = m) (hnm : n ≤ 100000000) (hmm : m ≤ 100000000) (ha : Rd w A a) (hb : Rd w B b) :
    Calls Try.prog 26 #[.slice A n ca, .slice B m cb] w fun e w' => ∃ v, e = .returned v ∧ Own 5 w' w.heap.size v (a ++ b) ∧ Below w.heap.size w w' := by
  have HN := Lib.hid hn
  have HM := Lib.hid hm
  clear hn hm
  go_enter Try.func26, Try.ntmps26
  go_wp2_with (first
    | (at_builtin; refine wpList_append_bytes rfl (.tmp 5) (.tmp 6) 22 rfl w.heap.size 5 Try.underlying22 byteInfo8 _ [] rfl (own_void w _ _ (Nat.le_refl _)) A n ca a rfl HN.out (ha.alloc _) (by simp; omega) (by simp) ?_; intro v1 w1 hown1 hg1 hat1; have hb1 : Below w.heap.size w w1 := (below_new w (.cells #[] 5)).grown hg1 (by simp) (fun j e => (own_void w 5 w.heap.size (Nat.le_refl _)).at_ j e |>.1))
    | (at_builtin; refine wpList_append_bytes rfl (.tmp 7) (.tmp 8) 22 rfl w.heap.size 5 Try.underlying22 byteInfo8 _ ([] ++ a) rfl hown1 B m cb b rfl HM.out (hb.below hb1) (by simp only [List.nil_append, HN.out]; omega) hb1.size ?_; intro v2 w2 hown2 hg2 hat2)
    | fail)
  go_ret
  exact ⟨v2, rfl, hown2, hb1.grown hg2 hb1.size (fun j e => (hown1.at_ j e).1)⟩
/-- The first k bytes of a key's block, turned. -/
def turned (c : UInt8) (key : List UInt8) (k : Nat) : List UInt8 := Hm.turn c ((Hm.pad key).take k)
theorem turned_len (c : UInt8) (key : List UInt8) (k : Nat) (h : k ≤ 64) : (turned c key k).length = k := by
  rw [turned, Hm.turn_len, List.length_take, Hm.pad_len]; omega
theorem turned_step (c : UInt8) (key : List UInt8) (k : Nat) (h : k < 64) : turned c key (k + 1) = turned c key k ++ [(Hm.pad key)[k]'(by rw [Hm.pad_len]; exact h) ^^^ c] := by
  rw [turned, turned, List.take_succ_eq_append_getElem (by rw [Hm.pad_len]; exact h), Hm.turn, Hm.turn, List.map_append]
  rfl
theorem turned_all (c : UInt8) (key : List UInt8) : turned c key 64 = Hm.turn c (Hm.pad key) := by
  rw [turned, List.take_of_length_le (by rw [Hm.pad_len]; omega)]
theorem pad_short (key : List UInt8) (k : Nat) (h : k < (Hm.short key).length) : (Hm.pad key)[k]'(by have := Hm.short_le key; rw [Hm.pad_len]; omega) = (Hm.short key)[k] := by
  simp only [Hm.pad]
  rw [List.getElem_append_left h]
theorem pad_zero (key : List UInt8) (k : Nat) (h : (Hm.short key).length ≤ k) (hk : k < 64) : (Hm.pad key)[k]'(by rw [Hm.pad_len]; omega) = 0 := by
  simp only [Hm.pad]
  rw [List.getElem_append_right h]
  simp [Sha.zeros]
set_option maxRecDepth 100000 in
set_option maxHeartbeats 4000000 in
/-- From the short key on. -/
theorem refTag_any (A : Option Addr) (n ca : Nat) (key : List UInt8) (B : Option Addr) (m cb : Nat) (msg : List UInt8) (w : World) (hn : key.length = n) (hm : msg.length = m) (hnm : n ≤ 1000000) (hmm : m ≤ 1000000) (hca : n ≤ ca) (hcm : ca ≤ 9223372036854775807) (ha : Rd w A key) (hb : Rd w B msg) :
    Calls Try.prog 11 #[.slice A n ca, .slice B m cb] w fun e w' => e = .returned (.agg (hC (Hm.tag key msg))) ∧ Below w.heap.size w w' := by
  have HN := Lib.hid hn
  have HM := Lib.hid hm
  clear hn hm
  obtain ⟨sk, hsk⟩ : ∃ q, Hm.short key = q := ⟨_, rfl⟩
  have hskl : sk.length ≤ 64 := by rw [← hsk]; exact Hm.short_le key
  have hrow4 := Row.new w 25 (hC [])
  have hb4 := below_new w (.cells (hC []) 25)
  go_enter Try.func11, Try.ntmps11
  go_upto_if 13 with (first
    | (with_reducible refine wpList_alloc rfl 25 rfl (allocH _) ?_)
    | fail)
  obtain ⟨g, hg⟩ : ∃ q, q = w.heap.size := ⟨_, rfl⟩
  rw [← hg] at hrow4 ⊢
  have hgle : w.heap.size ≤ g := by omega
  clear hg
  generalize w.alloc (.cells (hC []) 25) = w1 at *
  go_cut [0] from 5 to 16 (fun s W => ∃ S c, s = .slice S sk.length c ∧ Rd W S sk ∧ Later w1 W)
  case first =>
    by_cases h64 : 64 < n
    · have hd : decide (64 < n) = true := by simpa using h64
      have hd' : decide ((64 : Int) < (n : Int)) = true := by simp; omega
      have hskH : Sha.sum key = sk := by rw [← hsk]; exact (if_pos (by rw [HN.out]; omega)).symm
      have hsl : sk.length = 32 := by rw [← hskH]; exact Sha.sum_len _
      have hcall := refSum_any A n ca key w1 HN.out (by omega) (ha.below hb4)
      rw [hskH] at hcall
      have HSL := Lib.hid hsl
      clear hsk hskH hsl
      go_wp2_with (first
        | (go_at_call 22; refine hcall.mono ?_; rintro e w2 ⟨rfl, hb2⟩; obtain ⟨w3, hst, hr3, hg3⟩ := storeH (a := []) (b := sk) (by simp) (by rw [HSL.out]; omega) (Row.new w2 25 (hC [])))
        | (with_reducible refine wpList_alloc rfl 25 rfl (allocH _) ?_)
        | (refine wpList_store rfl 25 (.tmp 5) (.tmp 15) rfl (.pointer (some ⟨w2.heap.size, 0, none⟩)) (.agg (hC sk)) rfl rfl hst ?_)
        | (refine wpList_slice0 rfl 25 (.tmp 5) rfl (.pointer (some ⟨w2.heap.size, 0, none⟩)) rfl (sliceHash _) ?_)
        | fail)
      go_meet
      have hL2 : Later w1 w2 := hb2
      exact ⟨some ⟨w2.heap.size, 0, none⟩, 32, by rw [HSL.out], rd_hash HSL.out hr3, Below.grown (hL2.alloc _) hg3 (by have := hL2.size; simp only [World.size_alloc]; omega) (fun j e => by cases e; exact hL2.size)⟩
    · have hd : decide (64 < n) = false := by simpa using h64
      have hd' : decide ((64 : Int) < (n : Int)) = false := by simp; omega
      have hskH : key = sk := by rw [← hsk]; exact (if_neg (by rw [HN.out]; omega)).symm
      go_wp2_with fail
      go_meet
      exact ⟨A, ca, by rw [← hskH, HN.out], by rw [← hskH]; exact ha.below hb4, Later.refl _⟩
  case rest =>
    obtain ⟨w5, rfl⟩ : ∃ y, y = wc := ⟨_, rfl⟩
    obtain ⟨S, c, rfl, hS, hLc⟩ := hcut
    have hr4 := hrow4.later hLc
    have hb5 : Below w.heap.size w w5 := hb4.trans (hLc.mono hb4.size)
    have hB := hb.below hb5
    have HSK := Lib.hid hsk
    have HGL := Lib.hid hgle
    have HG4 := Lib.hid hr4.lt
    clear hrow4 hb4 hLc ha hb hsk hgle
    go_wp2_with fail
    go_loopw [6, 7, 8] (fun u v t wr => ∃ k : Nat, k ≤ 64 ∧ t = .int .i64 k ∧ Own 5 wr w5.heap.size u (turned 54 key k) ∧ Own 5 wr w5.heap.size v (turned 92 key k) ∧ (∀ j, u.ownBlock = some j → v.ownBlock ≠ some j) ∧ Later w5 wr) (fun _ _ t _ => 64 - (intOf t).toNat)
    case atStart => exact ⟨0, by omega, rfl, Own.nil _ _ _, Own.nil _ _ _, fun j e => by simp [Value.ownBlock] at e, Later.refl _⟩
    case round =>
      obtain ⟨k, hk, rfl, hu, hv, hne, hL⟩ := hrel
      have hLs := hL.size
      by_cases hlt : k < 64
      · have hu1 := turned_step 54 key k hlt
        have hv1 := turned_step 92 key k hlt
        have hul := turned_len 54 key k (by omega)
        have hvl := turned_len 92 key k (by omega)
        obtain ⟨x, hx⟩ : ∃ x, (Hm.pad key)[k]'(by rw [Hm.pad_len]; exact hlt) = x := ⟨_, rfl⟩
        rw [hx] at hu1 hv1
        have hx54 : bits .xor .u8 (x.toNat : Int) 54 = ((x ^^^ 54).toNat : Int) := by
          rw [show (54 : Int) = (((54 : UInt8).toNat : Nat) : Int) from rfl, u8_xor_nat _ _ x.toNat_lt (by decide), UInt8.toNat_xor]
        have hx92 : bits .xor .u8 (x.toNat : Int) 92 = ((x ^^^ 92).toNat : Int) := by
          rw [show (92 : Int) = (((92 : UInt8).toNat : Nat) : Int) from rfl, u8_xor_nat _ _ x.toNat_lt (by decide), UInt8.toNat_xor]
        have HU1 := Lib.hid hu1
        have HV1 := Lib.hid hv1
        generalize turned 54 key k = p at *
        generalize turned 92 key k = q at *
        clear hu1 hv1
        have hwr := hL.size
        go_upto_if 24 with fail
        go_cut [9] from 25 to 28 (fun s W => s = .int .u8 (x.toNat : Int) ∧ W = wr)
        case first =>
          by_cases hks : k < sk.length
          · obtain ⟨b, o, rfl, hc⟩ := (hS.later hL).at_ (k := k) hks
            have hxk : sk[k] = x := by
              have := pad_short key k (by rw [HSK.out]; exact hks)
              rw [hx] at this
              rw [this]
              simp only [HSK.out]
            rw [hxk] at hc
            clear hxk hx
            go_wp2_with fail
            go_meet
            exact ⟨rfl, rfl⟩
          · have hx0 : x = 0 := by
              rw [← hx]
              exact pad_zero key k (by rw [HSK.out]; omega) hlt
            subst hx0
            clear hx
            go_wp2_with fail
            go_meet
            exact ⟨rfl, rfl⟩
        case rest =>
          obtain ⟨wr, rfl⟩ : ∃ y, y = wc := ⟨_, rfl⟩
          obtain ⟨rfl, rfl⟩ := hcut
          clear hx
          go_wp2_with (first
            | (at_builtin; refine wpList_append_bytes rfl (.tmp 29) (.tmp 32) 22 rfl w5.heap.size 5 Try.underlying22 byteInfo8 _ p rfl (hu.alloc _) (some ⟨wr.heap.size, 0, none⟩) 1 1 [x ^^^ 54] rfl rfl (Rd.byte1 (by rw [UInt8.toNat_xor]; rfl)) (by omega) (by simp only [World.size_alloc]; omega) ?_; intro u2 w2 hu2 hg2 hat2; have hv2 := Own.keep (w' := w2) (hv.alloc _) (fun b hb e => hg2.block b hb (fun h => hne b h.symm e)))
            | (at_builtin; refine wpList_append_bytes rfl (.tmp 34) (.tmp 37) 22 rfl w5.heap.size 5 Try.underlying22 byteInfo8 _ q rfl (hv2.alloc _) (some ⟨w2.heap.size, 0, none⟩) 1 1 [x ^^^ 92] rfl rfl (Rd.byte1 (by rw [UInt8.toNat_xor]; rfl)) (by omega) (by have := hg2.size; simp only [World.size_alloc] at this ⊢; omega) ?_; intro v3 w3 hv3 hg3 hat3)
            | fail)
          have hat2' : u2.ownBlock = u6.ownBlock ∨ u2.ownBlock = some (wr.alloc (.cells #[.int .u8 ((x.toNat ^^^ 54 : Nat) : Int)] 5)).heap.size := hat2
          have hat3' : v3.ownBlock = u7.ownBlock ∨ v3.ownBlock = some (w2.alloc (.cells #[.int .u8 ((x.toNat ^^^ 92 : Nat) : Int)] 5)).heap.size := hat3
          have hv7 := hv.at_
          have hs2 := hg2.size
          have hs3 := hg3.size
          simp only [World.size_alloc] at hs2 hs3 hat2' hat3'
          have hd : ∀ j, u2.ownBlock = some j → u7.ownBlock ≠ some j := fun j e h7 => by
            rcases hat2' with h | h
            · exact hne j (h.symm.trans e) h7
            · rw [h] at e
              injection e with e
              have := (hv7 j h7).2
              omega
          have hd3 : ∀ j, u2.ownBlock = some j → v3.ownBlock ≠ some j := fun j e h3 => by
            rcases hat3' with h | h
            · exact hd j e (h.symm.trans h3)
            · rw [h] at h3
              injection h3 with h3
              have := (hu2.at_ j e).2
              omega
          have hu3 := Own.keep (w' := w3) (hu2.alloc _) (fun b hb e => hg3.block b hb (fun h => hd b e h.symm))
          have hL2 : Later w5 w2 := Below.grown (hL.alloc _) hg2 (by simp only [World.size_alloc]; omega) (fun j e => (hu.at_ j e).1)
          have hL3 : Later w5 w3 := Below.grown (hL2.alloc _) hg3 (by have := hL2.size; simp only [World.size_alloc]; omega) (fun j e => (hv2.at_ j e).1)
          go_roundw
          case rel => exact ⟨k + 1, by omega, by go_num, by rw [HU1.out]; exact hu3, by rw [HV1.out]; exact hv3, hd3, hL3⟩
          case measure => simp [intOf]; omega
      · obtain rfl : k = 64 := by omega
        rw [turned_all] at hu hv
        obtain ⟨A6, c6, rfl, hc6, hm6, hr6⟩ := hu.slice
        obtain ⟨A7, c7, rfl, hc7, hm7, hr7⟩ := hv.slice
        have hp54 : (Hm.turn 54 (Hm.pad key)).length = 64 := by rw [Hm.turn_len, Hm.pad_len]
        have hp92 : (Hm.turn 92 (Hm.pad key)).length = 64 := by rw [Hm.turn_len, Hm.pad_len]
        obtain ⟨pm, hpm⟩ : ∃ q, Hm.turn 54 (Hm.pad key) ++ msg = q := ⟨_, rfl⟩
        obtain ⟨H, hH⟩ : ∃ q, Sha.sum pm = q := ⟨_, rfl⟩
        obtain ⟨pn, hpn⟩ : ∃ q, Hm.turn 92 (Hm.pad key) ++ H = q := ⟨_, rfl⟩
        obtain ⟨T, hT⟩ : ∃ q, Sha.sum pn = q := ⟨_, rfl⟩
        have hTT : Hm.tag key msg = T := by rw [← hT, ← hpn, ← hH, ← hpm]; rfl
        have hHl : H.length = 32 := by rw [← hH]; exact Sha.sum_len _
        have hTl : T.length = 32 := by rw [← hT]; exact Sha.sum_len _
        have hpml : pm.length = 64 + m := by rw [← hpm, List.length_append, hp54, HM.out]
        have hpnl : pn.length = 96 := by rw [← hpn, List.length_append, hp92, hHl]
        rw [hp54] at hc6
        rw [hp92] at hc7
        rw [hp54, hp92]
        have HTT := Lib.hid hTT
        have hj1 := refJoin_any A6 64 c6 (Hm.turn 54 (Hm.pad key)) B m cb msg wr hp54 HM.out (by decide) (by omega) hr6 (hB.later hL)
        rw [hpm] at hj1
        have HJ2 : Hid (∀ gh W, Later wr W → Row W gh 25 (hC H) → Calls Try.prog 26 #[.slice A7 64 c7, .slice (some ⟨gh, 0, none⟩) 32 32] W fun e w' => ∃ v, e = .returned v ∧ Own 5 w' W.heap.size v pn ∧ Below W.heap.size W w') := Lib.hid (fun gh W hLW hrow => by
          have := refJoin_any A7 64 c7 (Hm.turn 92 (Hm.pad key)) (some ⟨gh, 0, none⟩) 32 32 H W hp92 hHl (by decide) (by decide) (hr7.later hLW) (rd_hash hHl hrow)
          rwa [hpn] at this)
        have HS1 : Hid (∀ (A : Option Addr) c W, Rd W A pm → Calls Try.prog 22 #[.slice A pm.length c] W fun e w' => e = .returned (.agg (hC H)) ∧ Below W.heap.size W w') := Lib.hid (fun A c W hr => by
          have := refSum_any A pm.length c pm W rfl (by omega) hr
          rwa [hH] at this)
        have HS2 : Hid (∀ (A : Option Addr) c W, Rd W A pn → Calls Try.prog 22 #[.slice A pn.length c] W fun e w' => e = .returned (.agg (hC T)) ∧ Below W.heap.size W w') := Lib.hid (fun A c W hr => by
          have := refSum_any A pn.length c pn W rfl (by omega) hr
          rwa [hT] at this)
        have hrg := hr4.later hL
        have hbr : Below w.heap.size w wr := hb5.trans (hL.below.mono hb5.size)
        have HHL := Lib.hid hHl
        have HTL := Lib.hid hTl
        clear hpm hH hpn hT hTT hHl hTl hpml hpnl hp54 hp92 hu hv hne hr6 hr7 hr4 hb5 hB
        go_upto_region 13 with (first
          | (go_at_call 26; refine hj1.mono ?_; clear hj1; rintro e w6 ⟨v, rfl, hown6, hb6⟩; obtain ⟨A8, c8, rfl, hc8, hm8, hr8⟩ := hown6.slice)
          | (go_at_call 22; refine (HS1.out _ _ _ hr8).mono ?_; rintro e w7 ⟨rfl, hb7⟩; obtain ⟨w8, hst8, hr10, hg8⟩ := storeH (a := []) (b := H) (by simp) (by rw [HHL.out]; omega) (Row.new w7 25 (hC [])))
          | (with_reducible refine wpList_alloc rfl 25 rfl (allocH _) ?_)
          | (refine wpList_store rfl 25 (.tmp 10) (.tmp 42) rfl (.pointer (some ⟨w7.heap.size, 0, none⟩)) (.agg (hC H)) rfl rfl hst8 ?_)
          | fail)
        have hL7 : Later wr w7 := Later.step hb6 hb7
        have hL8 : Later wr w8 := Below.grown (hL7.alloc _) hg8 (by have := hL7.size; simp only [World.size_alloc]; omega) (fun j e => by cases e; exact hL7.size)
        obtain ⟨g10, hg10⟩ : ∃ q, q = w7.heap.size := ⟨_, rfl⟩
        rw [← hg10] at hr10 ⊢
        have hj2 := HJ2.out g10 w8 hL8 hr10
        have hrg8 := hrg.later hL8
        have hb8 : Below w.heap.size w w8 := hbr.trans (hL8.below.mono hbr.size)
        clear hst8 hg8 hg10 hL7 hb7 hb6 hown6 hr8 HJ2 HS1 hrg hL8
        go_wp2_with (first
          | (refine wpList_slice0 rfl 25 (.tmp 10) rfl (.pointer (some ⟨g10, 0, none⟩)) rfl (sliceHash _) ?_)
          | (go_at_call 26; refine hj2.mono ?_; clear hj2; rintro e w9 ⟨v, rfl, hown9, hb9⟩; obtain ⟨A9, c9, rfl, hc9, hm9, hr9⟩ := hown9.slice)
          | (go_at_call 22; refine (HS2.out _ _ _ hr9).mono ?_; rintro e wA ⟨rfl, hbA⟩; have hLA : Later w8 wA := Later.step hb9 hbA; obtain ⟨wB, hstB, hrB, hgB⟩ := storeH (a := []) (b := T) (by simp) (by rw [HTL.out]; omega) (hrg8.later hLA))
          | (refine wpList_store rfl 25 (.tmp 4) (.tmp 46) rfl (.pointer (some ⟨g, 0, none⟩)) (.agg (hC T)) rfl rfl hstB ?_)
          | fail)
        have hbB : Below w.heap.size w wA := hb8.trans (hLA.below.mono hb8.size)
        refine bodyPost_ret (results_cell_row rfl _ _ g 25 (hC T) (0, 0) _ rfl hrB Try.underlying25 rfl (by rw [hC_size _ (by rw [HTL.out]; omega)]; exact infoH)) rfl ⟨by rw [HTT.out], hbB.grown hgB hbB.size (fun j e => by cases e; exact HGL.out)⟩
end Go.Proofs.Ytbjclmfhmdalkaa
