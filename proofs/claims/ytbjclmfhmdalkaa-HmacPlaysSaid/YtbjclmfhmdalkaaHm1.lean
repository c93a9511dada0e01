/- Walks: a key's block; what turns a block. -/
import Derived.Test.YtbjclmfhmdalkaaBa4
import Derived.Test.YtbjclmfhmdalkaaHmMath
set_option linter.unusedVariables false
set_option linter.unusedSimpArgs false
namespace Go.Proofs.Ytbjclmfhmdalkaa
open Go.RowKit
def aB (l : List UInt8) : Array Value := (l.map byteV).toArray
theorem aB_size (l : List UInt8) : (aB l).size = l.length := by simp [aB]
theorem aB_one (l : List UInt8) : (aB l).all (·.oneCell') = true := by
  rw [Array.all_eq_true_iff_forall_mem]
  intro v hv
  unfold aB at hv
  rw [List.mem_toArray] at hv
  obtain ⟨i, hi, rfl⟩ := List.mem_map.1 hv
  rfl
theorem aB_get (l : List UInt8) (i : Nat) (h : i < l.length) : (aB l)[i]? = some (byteV l[i]) := by simp [aB, h]
theorem infoK : (Try.prog.info? 74).map (·.size) = some 64 := by kernel_rfl
theorem infoKl {l : List UInt8} (h : l.length = 64) : (Try.prog.info? 74).map (·.size) = some (aB l).size := by rw [aB_size, h]; exact infoK
theorem allocK (w : World) : (Instr.alloc 74 true (.tuple #[])).run Try.prog w = .ok (.pointer (some ⟨w.heap.size, 0, none⟩)) (w.alloc (.cells (aB (Sha.zeros 64)) 74)) := by kernel_rfl
theorem sliceK {g : Nat} (W : World) : (Instr.sliceAt 74 (.pointer (some ⟨g, 0, none⟩)) none none none).run Try.prog W = .ok (.slice (some ⟨g, 0, none⟩) 64 64) W := by
  obtain ⟨i, hi0, hz, hs, hb⟩ := info_parts info5
  simp [Instr.sliceAt, run_underlying Try.underlying74, sizeOf, typeInfo, hi0, hs, go_sem]
theorem setFrom_aB (z l : List UInt8) (h : l.length ≤ z.length) : setFrom (aB z) 0 (l.map byteV) = aB (l ++ z.drop l.length) := by
  have e : aB z = ([] ++ ((z.take l.length).map byteV ++ (z.drop l.length).map byteV)).toArray := by
    rw [List.nil_append, ← List.map_append, List.take_append_drop]; rfl
  rw [e, setFrom_mid [] _ _ _ 0 rfl (by simp; omega), List.nil_append, ← List.map_append]
  rfl
theorem loadK {w : World} {g : Nat} {t : TypeId} {l : List UInt8} (hl : l.length = 64) (hr : Row w g t (aB l)) : (Instr.loadAt 74 (.pointer (some ⟨g, 0, none⟩))).run Try.prog w = .ok (.agg (aB l)) w :=
  run_load_row hr Try.underlying74 rfl (infoKl hl)
theorem boxK {l : List UInt8} (hl : l.length = 64) (w : World) : (Instr.box 74 (.agg (aB l))).run Try.prog w = .ok (.pointer (some ⟨w.heap.size, 0, none⟩)) (w.alloc (.cells (aB l) 74)) :=
  run_box_row w _ _ (infoKl hl)
set_option maxRecDepth 100000 in
set_option maxHeartbeats 1000000 in
theorem of_any (A : Option Addr) (n ca : Nat) (key : List UInt8) (w : World) (hn : key.length = n) (hc : n ≤ ca) (hcm : ca ≤ 9223372036854775807) (hm : n ≤ 1000000) (hr : Rd w A key) :
    Calls Try.prog 31 #[.slice A n ca] w fun e w' => e = .returned (.agg (aB (Hm.pad key))) ∧ Below w.heap.size w w' := by
  have hal := fun W => allocK W
  have hz64 : (Sha.zeros 64).length = 64 := List.length_replicate
  have hsh := Hm.short_le key
  have hpad : Hm.short key ++ (Sha.zeros 64).drop (Hm.short key).length = Hm.pad key := by
    rw [Hm.pad]
    congr 1
    unfold Sha.zeros
    rw [List.drop_replicate]
  generalize Sha.zeros 64 = z0 at *
  have hrow := Row.new w 74 (aB z0)
  have hb0 := below_new w (.cells (aB z0) 74)
  have HAL := Lib.hid hal
  clear hal
  have hpl := Hm.pad_len key
  have HPL := Lib.hid hpl
  have HPAD := Lib.hid hpad
  have HN := Lib.hid hn
  have HZ := Lib.hid hz64
  clear hpl hpad hz64
  obtain ⟨g, hg⟩ : ∃ q, q = w.heap.size := ⟨_, rfl⟩
  have hgl := hrow.lt
  by_cases h64 : 64 < n
  · have hd : decide (64 < n) = true := by simpa using h64
    have hd' : decide ((64 : Int) < (n : Int)) = true := by simp; omega
    obtain ⟨H, hH⟩ : ∃ H, Sha.sum key = H := ⟨_, rfl⟩
    have hHl : H.length = 32 := by rw [← hH]; exact Sha.sum_len _
    have hsk : Hm.short key = H := by rw [← hH]; exact if_pos (by omega)
    rw [hsk] at HPAD hsh
    have hcall := sum_at A n ca key H 22 (w.alloc (.cells (aB z0) 74)) (hr.below hb0) hn hc hcm (by omega) hH
    have HHL := Lib.hid hHl
    have hnew := below_new (w.alloc (.cells (aB z0) 74)) (.cells #[.slice A n ca] 22)
    clear hH hHl hsk hn
    go_enter Try.func31, Try.ntmps31
    go_upto_region 1 with (first
      | (with_reducible refine wpList_alloc rfl 74 rfl (HAL.out _) ?_)
      | fail)
    have hw1s : w.heap.size < (w.alloc (.cells (aB z0) 74)).heap.size := by simp only [World.size_alloc]; omega
    have hgle : w.heap.size ≤ g := by omega
    rw [← hg] at hrow ⊢
    clear hg hgl
    generalize w.alloc (.cells (aB z0) 74) = w1 at *
    clear HAL
    go_upto_region 3 with (first
      | (refine wpList_buildSl rfl 23 1 _ rfl #[(0, .slice A n ca)] rfl (build1S _ _ _ _) ?_)
      | (go_at_call 29; refine hcall.mono ?_; rintro e w2 ⟨rfl, hb2⟩; obtain ⟨w3, hst, hr3, hg3⟩ := storeH (a := []) (b := H) (by simp) (by rw [HHL.out]; omega) (Row.new w2 25 (hC [])))
      | (with_reducible refine wpList_alloc rfl 25 rfl (allocH _) ?_)
      | (refine wpList_store rfl 25 (.tmp 3) (.tmp 9) rfl (.pointer (some ⟨w2.heap.size, 0, none⟩)) (.agg (hC H)) rfl rfl hst ?_)
      | fail)
    have hL2 : Later w1 w2 := Below.trans hnew (hb2.mono (by omega))
    have hL3 : Later w1 w3 := Below.grown (hL2.alloc _) hg3 (by have := hL2.size; have h9 := World.size_alloc w2 (.cells (hC []) 25); omega) (fun j e => by cases e; exact hL2.size)
    have hrow3 := hrow.later hL3
    have hb3 : Below w.heap.size w w3 := hb0.trans (hL3.mono hb0.size)
    obtain ⟨gh, hgh⟩ : ∃ q, q = w2.heap.size := ⟨_, rfl⟩
    rw [← hgh] at hr3 ⊢
    have hrh := rd_hash HHL.out hr3
    clear hcall hst hg3 hL2 hL3 hb2 hgh hnew hrow hb0 hr3 hw1s
    go_wp2_with (first
      | (refine wpList_slice0 rfl 25 (.tmp 3) rfl (.pointer (some ⟨gh, 0, none⟩)) rfl (sliceHash _) ?_)
      | (refine wpList_slice0 rfl 74 (.tmp 2) rfl (.pointer (some ⟨g, 0, none⟩)) rfl (sliceK _) ?_)
      | (refine wpList_copy_rd rfl (.tmp 11) (.tmp 12) 22 22 rfl 5 Try.underlying22 (by kernel_rfl) g 0 64 64 (some ⟨gh, 0, none⟩) 32 32 H HHL.out hrh (by rfl) (by rfl) _ _ hrow3 32 rfl (by rw [aB_size, HZ.out]; decide) ?_; intro w5 hr5 hg5; rw [List.take_of_length_le (by rw [HHL.out]; omega), setFrom_aB _ _ (by rw [HZ.out]; exact hsh), HPAD.out] at hr5; obtain ⟨w6, hst6, hr6, hg6⟩ := run_put_row (P := Try.prog) (T := 74) hr5 (vs := aB (Hm.pad key)) rfl (infoKl HPL.out) (aB_one _))
      | (refine wpList_load rfl 74 (.tmp 2) rfl (.pointer (some ⟨g, 0, none⟩)) rfl (loadK HPL.out hr5) ?_)
      | (refine wpList_store rfl 74 (.tmp 2) (.tmp 14) rfl (.pointer (some ⟨g, 0, none⟩)) (.agg (aB (Hm.pad key))) rfl rfl hst6 ?_)
      | fail)
    refine bodyPost_ret (results_cell_row rfl _ _ g 74 (aB (Hm.pad key)) (0, 0) _ rfl hr6 Try.underlying74 rfl (infoKl HPL.out)) rfl ⟨rfl, (hb3.grown hg5 hb3.size (fun j e => by cases e; exact hgle)).grown hg6 (by have h1 := hb3.size; have h2 := hg5.size; omega) (fun j e => by cases e; exact hgle)⟩
  · have hd : decide (64 < n) = false := by simpa using h64
    have hd' : decide ((64 : Int) < (n : Int)) = false := by simp; omega
    have hsk : Hm.short key = key := if_neg (by omega)
    rw [hsk] at HPAD hsh
    have hr1 := hr.below hb0
    have hgle : w.heap.size ≤ g := by omega
    have hn64 : min n 64 = n := by omega
    have hn64' : 0 + n ≤ 64 := by omega
    rw [← hg] at hrow
    clear hsk
    go_enter Try.func31, Try.ntmps31
    go_upto_region 1 with (first
      | (with_reducible refine wpList_alloc rfl 74 rfl (HAL.out _) ?_)
      | fail)
    rw [← hg]
    clear hg hgl
    generalize w.alloc (.cells (aB z0) 74) = w1 at *
    clear HAL
    go_wp2_with (first
      | (refine wpList_slice0 rfl 74 (.tmp 2) rfl (.pointer (some ⟨g, 0, none⟩)) rfl (sliceK _) ?_)
      | (refine wpList_copy_rd rfl (.tmp 11) (.tmp 12) 22 22 rfl 5 Try.underlying22 (by kernel_rfl) g 0 64 64 A n ca key HN.out hr1 (by rfl) (by rfl) _ _ hrow n hn64 (by rw [aB_size, HZ.out]; exact hn64') ?_; intro w5 hr5 hg5; rw [List.take_of_length_le (by rw [HN.out]; omega), setFrom_aB _ _ (by rw [HZ.out]; exact hsh), HPAD.out] at hr5; obtain ⟨w6, hst6, hr6, hg6⟩ := run_put_row (P := Try.prog) (T := 74) hr5 (vs := aB (Hm.pad key)) rfl (infoKl HPL.out) (aB_one _))
      | (refine wpList_load rfl 74 (.tmp 2) rfl (.pointer (some ⟨g, 0, none⟩)) rfl (loadK HPL.out hr5) ?_)
      | (refine wpList_store rfl 74 (.tmp 2) (.tmp 14) rfl (.pointer (some ⟨g, 0, none⟩)) (.agg (aB (Hm.pad key))) rfl rfl hst6 ?_)
      | fail)
    refine bodyPost_ret (results_cell_row rfl _ _ g 74 (aB (Hm.pad key)) (0, 0) _ rfl hr6 Try.underlying74 rfl (infoKl HPL.out)) rfl ⟨rfl, (hb0.grown hg5 hb0.size (fun j e => by cases e; exact hgle)).grown hg6 (by have h1 := hb0.size; have h2 := hg5.size; omega) (fun j e => by cases e; exact hgle)⟩
theorem by_any (c : UInt8) (w : World) :
    Calls Try.prog 33 #[.int .u8 (c.toNat : Int)] w fun e w' => ∃ g, e = .returned (.func (.func 45) #[] #[.pointer (some ⟨g, 0, none⟩)]) ∧ Row w' g 5 #[.int .u8 (c.toNat : Int)] ∧ Later w w' := by
  go_enter Try.func33, Try.ntmps33
  go_wp2
  go_ret
  exact ⟨_, rfl, Row.new w _ _, (Later.refl w).alloc _⟩
end Go.Proofs.Ytbjclmfhmdalkaa
