/- Walks: the document's expansion of a key. -/
import Derived.Test.YtbjclmfhmdalkaaHm10
import Derived.Test.YtbjclmfhmdalkaaHm2
set_option linter.unusedVariables false
set_option linter.unusedSimpArgs false
namespace Go.Proofs.Ytbjclmfhmdalkaa
open Go.RowKit
theorem refExpand_out (A : Option Addr) (m ca : Nat) (name : ByteArray) (n : Int) (w : World) (h : n < 0 ∨ 8160 < n) :
    Calls Try.prog 14 #[.slice A m ca, .string name, .int .i64 n] w fun e w' => e = .returned (.tuple #[.slice none 0 0, .int .i64 2]) ∧ w = w' := by
  by_cases h0 : n < 0
  · have hd : decide (n < 0) = true := by simpa using h0
    go_enter Try.func14, Try.ntmps14
    go_wp2
    go_ret2
    exact ⟨rfl, rfl⟩
  · have hd : decide (n < 0) = false := by simpa using h0
    have h1 : 8160 < n := by omega
    have hd1 : decide (8160 < n) = true := by simpa using h1
    go_enter Try.func14, Try.ntmps14
    go_wp2
    go_ret2
    exact ⟨rfl, rfl⟩
set_option maxRecDepth 100000 in
set_option maxHeartbeats 4000000 in
theorem refExpand_any (A : Option Addr) (m ca : Nat) (key name : List UInt8) (n : Nat) (w : World) (hm : key.length = m) (hc : m ≤ ca) (hcm : ca ≤ 9223372036854775807) (hmm : m ≤ 1000000) (hnl : name.length ≤ 100000) (hr : Rd w A key) (hn : n ≤ 8160) :
    Calls Try.prog 14 #[.slice A m ca, .string ⟨name.toArray⟩, .int .i64 (n : Int)] w fun e w' => ∃ v, e = .returned (.tuple #[v, .int .i64 0]) ∧ (∃ S c, v = .slice S n c ∧ n ≤ c ∧ c ≤ 9223372036854775807 ∧ Rd w' S (Hm.expand key name n) ∧ (∀ ad, S = some ad → w.heap.size ≤ ad.block)) ∧ Below w.heap.size w w' := by
  have hd0 : decide ((n : Int) < 0) = false := by simp
  have hd1 : decide ((8160 : Int) < (n : Int)) = false := by simp; omega
  have HMM := Lib.hid hm
  clear hm
  go_enter Try.func14, Try.ntmps14
  go_wp2_with fail
  go_loopw [8, 9, 10] (fun o v t wr => ∃ k : Nat, 32 * k ≤ n + 31 ∧ t = .int .i64 ((k : Int) + 1) ∧ Own 5 wr w.heap.size o (Hm.all key name k) ∧ (∃ S c, v = .slice S (Hm.tags key name k).length c ∧ Rd wr S (Hm.tags key name k)) ∧ Later w wr) (fun o _ _ _ => n - lenV o)
  case atStart => exact ⟨0, by omega, rfl, Own.nil _ _ _, ⟨none, 0, rfl, fun h => absurd rfl h⟩, Later.refl _⟩
  case round =>
    obtain ⟨k, hk, rfl, hown, ⟨S, c, rfl, hrS⟩, hL⟩ := hrel
    obtain ⟨A8, c8, rfl, h81, h82, h8r⟩ := hown.slice
    have hal := Hm.all_len key name k
    rw [hal] at h81 ⊢
    clear hd0 hd1
    by_cases hlt : 32 * k < n
    · have hd : decide (32 * k < n) = true := by simpa using hlt
      have hd' : decide (((32 * k : Nat) : Int) < (n : Int)) = true := by simp; omega
      obtain ⟨L, hLe⟩ : ∃ q, Hm.tags key name k = q := ⟨_, rfl⟩
      obtain ⟨T, hTe⟩ : ∃ q, Hm.tags key name (k + 1) = q := ⟨_, rfl⟩
      have hLl : L.length ≤ 32 := by
        rw [← hLe]
        rcases k with _ | k
        · simp [Hm.tags]
        · rw [Hm.tags_len]; omega
      have hTl : T.length = 32 := by rw [← hTe]; exact Hm.tags_len _ _ _
      have htag : Hm.tag key (L ++ name ++ [UInt8.ofNat (k + 1)]) = T := by rw [← hTe, ← hLe]; rfl
      have hnx : Hm.all key name (k + 1) = Hm.all key name k ++ T := by rw [Hm.all, hTe]
      rw [hLe] at hrS ⊢
      have HTE := Lib.hid hTe
      have HTL := Lib.hid hTl
      have HTAG := Lib.hid htag
      have HNX := Lib.hid hnx
      have HAL := Lib.hid hal
      clear hLe hTe hTl htag hnx hal
      generalize Hm.all key name k = al at *
      obtain ⟨wc, cp, hcv, hrc, hcp1, hcp2, hLc⟩ := conv_rd wr name (by omega)
      have hj := refJoin_any S L.length c L (some ⟨wr.heap.size, 0, none⟩) name.length cp name wc rfl rfl (by omega) (by omega) (hrS.later hLc) hrc
      have hLs := hL.size
      have hk254 : k + 1 < 256 := by omega
      obtain ⟨msg, hmsg⟩ : ∃ q, L ++ name ++ [UInt8.ofNat (k + 1)] = q := ⟨_, rfl⟩
      have hml : msg.length ≤ 1000000 := by rw [← hmsg]; simp; omega
      have HTAG2 : Hid (Hm.tag key msg = T) := Lib.hid (by rw [← hmsg]; exact HTAG.out)
      have HMSG := Lib.hid hmsg
      have hLn : (L ++ name).length ≤ 200000 := by rw [List.length_append]; omega
      have hlen1 : (L ++ name).length + 1 ≤ 140737488355328 := by omega
      have HLE := Lib.hid hlen1
      have hbyte : ((k : Int) + 1) = ((UInt8.ofNat (k + 1)).toNat : Int) := by rw [UInt8.toNat_ofNat']; omega
      have HBY := Lib.hid hbyte
      have hown8 := hown
      have hLcw : Later w wc := hL.step hLc
      clear hmsg HTAG hbyte hLn hlen1
      go_upto_region 8 with (first
        | (go_at_call 26; refine hj.mono ?_; clear hj; rintro e w2 ⟨v2, rfl, hown2, hb2⟩)
        | (at_builtin; refine wpList_append_bytes rfl (.tmp 28) (.tmp 31) 22 rfl wc.heap.size 5 Try.underlying22 byteInfo8 _ (L ++ name) rfl (hown2.alloc _) (some ⟨w2.heap.size, 0, none⟩) 1 1 [UInt8.ofNat (k + 1)] rfl rfl (Rd.byte1 HBY.out) HLE.out (by have := Below.size hb2; simp only [World.size_alloc]; omega) ?_; intro v3 w3 hown3 hg3 hat3; rw [HMSG.out] at hown3; obtain ⟨A3, c3, rfl, h31, h32, h3r⟩ := hown3.slice; have hL2 : Later wc w2 := hb2; have hL3 : Later wc w3 := Below.grown (hL2.alloc _) hg3 (by have := hL2.size; simp only [World.size_alloc]; omega) (fun j e => (hown2.at_ j e).1); have htg := refTag_any A m ca key A3 msg.length c3 msg w3 HMM.out rfl hmm hml hc hcm (hr.later (hLcw.step hL3)) h3r; rw [HTAG2.out] at htg)
        | (go_at_call 11; refine htg.mono ?_; clear htg; rintro e w4 ⟨rfl, hb4⟩; obtain ⟨w5, hst5, hr5, hg5⟩ := storeH (a := []) (b := T) (by simp) (by rw [HTL.out]; omega) (Row.new w4 25 (hC [])))
        | (with_reducible refine wpList_alloc rfl 25 rfl (allocH _) ?_)
        | (refine wpList_store rfl 25 (.tmp 11) (.tmp 33) rfl (.pointer (some ⟨w4.heap.size, 0, none⟩)) (.agg (hC T)) rfl rfl hst5 ?_)
        | fail)
      have hL4 : Later wc w4 := hL3.step hb4
      have hL5 : Later wc w5 := Below.grown (hL4.alloc _) hg5 (by have := hL4.size; simp only [World.size_alloc]; omega) (fun j e => by cases e; exact hL4.size)
      obtain ⟨g11, hg11⟩ : ∃ q, q = w4.heap.size := ⟨_, rfl⟩
      rw [← hg11] at hr5 ⊢
      have hLw5 : Later w w5 := hLcw.step hL5
      have h8r5 := h8r.later (hLc.step hL5)
      have hrt := rd_hash HTL.out hr5
      have hw5 := hLw5.size
      clear hst5 hg5 hg11 hL3 hL4 hL2 hb2 hb4 hg3 h3r hown3 hown2 hat3 hL5 hLc hLcw hrc hown8 hown h8r hL hLs hrS
      go_upto_region 9 with (first
        | (refine wpList_slice0 rfl 25 (.tmp 11) rfl (.pointer (some ⟨g11, 0, none⟩)) rfl (sliceHash _) ?_)
        | (at_builtin; refine wpList_append_bytes rfl (.tmp 34) (.tmp 35) 22 rfl w5.heap.size 5 Try.underlying22 byteInfo8 _ [] rfl (own_void w5 _ _ (Nat.le_refl _)) (some ⟨g11, 0, none⟩) 32 32 T rfl HTL.out (hrt.alloc _) (by simp) (by simp only [World.size_alloc]; omega) ?_; intro v6 w6 hown6 hg6 hat6)
        | fail)
      have hL6 : Later w5 w6 := (below_new w5 (.cells #[] 5)).grown hg6 (by simp only [World.size_alloc]; omega) (fun j e => (own_void w5 5 w5.heap.size (Nat.le_refl _)).at_ j e |>.1)
      rw [List.nil_append] at hown6
      obtain ⟨A6, c6, rfl, h61, h62, h6r⟩ := hown6.slice
      rw [HTL.out] at h61 ⊢
      have hj2 := refJoin_any A8 (32 * k) c8 al A6 32 c6 T w6 HAL.out HTL.out (by omega) (by decide) (h8r5.later hL6) h6r
      clear hown6 hg6 hat6 h8r5 hrt
      go_wp2_with (first
        | (go_at_call 26; refine hj2.mono ?_; clear hj2; rintro e w7 ⟨v7, rfl, hown7, hb7⟩)
        | fail)
      have hL7 : Later w6 w7 := hb7
      have hLw7 : Later w w7 := (hLw5.step hL6).step hL7
      have hown7' : Own 5 w7 w.heap.size v7 (al ++ T) := hown7.mono (b' := w.heap.size) (by have := hL6.size; omega)
      have h6r7 := h6r.later hL7
      have hlv : lenV v7 = 32 * k + 32 := by
        obtain ⟨_, _, rfl, _⟩ := hown7.slice
        simp [lenV, HAL.out, HTL.out]
      clear hown7 hb7 hL7 h6r hL6 hLw5
      go_roundw
      case rel => exact ⟨k + 1, by omega, by go_num, by rw [HNX.out]; exact hown7', ⟨A6, c6, by rw [HTE.out, HTL.out], by rw [HTE.out]; exact h6r7⟩, hLw7⟩
      case measure =>
        rw [hlv]
        simp [lenV]
        omega
    · have hd : decide (32 * k < n) = false := by simpa using hlt
      have hd' : decide (((32 * k : Nat) : Int) < (n : Int)) = false := by simp; omega
      have hex := Hm.expand_of key name n k (by omega)
      have hrE : Rd wr A8 (Hm.expand key name n) := by rw [← hex]; exact h8r.take n
      have hsl : ∀ w' : World, (Instr.sliceAt 22 (.slice A8 (32 * k) c8) none (some (.int .i64 (n : Int))) none).run Try.prog w' = .ok (.slice A8 n c8) w' :=
        run_slice_upto (k := n) Try.underlying22 byteInfo8 (by omega)
      have HSL := Lib.hid hsl
      have hfr : ∀ ad, A8 = some ad → w.heap.size ≤ ad.block := fun ad e => (hown.at_ ad.block (by rw [e]; rfl)).1
      clear hex hsl hown hal
      go_wp2_with fail
      go_ret2
      exact ⟨_, rfl, ⟨A8, c8, rfl, by omega, by unfold maxLen at h82; omega, hrE, hfr⟩, hL⟩
end Go.Proofs.Ytbjclmfhmdalkaa
