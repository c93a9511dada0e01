/- Walks of the document's answers: a matrix on a word; a word so many noughts on. -/
import Derived.Test.YtkgpagkhheglgaaCrcL1
import Derived.Test.YtkgpagkhheglgaaCrcW6
import Derived.Deep.DeepCutAuto
import Derived.Deep.RegionHeld3
namespace Go.Proofs.Ytkgpagkhheglgaa
open Go.RowKit
/-- The matrix of so many steps: column i is what comes of the bit i. -/
def mat (m : Nat) : Array Value := (Array.range 32).map fun i => .int .u32 ((Crc.steps m (Crc.bit i)).toNat : Int)
def matTo (m k : Nat) : Array Value := (Array.range 32).map fun i => .int .u32 (if i < k then ((Crc.steps m (Crc.bit i)).toNat : Int) else 0)
def z32 : Array Value := Array.replicate 32 (.int .u32 0)
theorem mat_get (m i : Nat) (h : i < 32) : (mat m)[i]? = some (.int .u32 ((Crc.steps m (Crc.bit i)).toNat : Int)) := by
  unfold mat
  rw [Array.getElem?_map, Array.getElem?_range, if_pos h]; rfl
theorem matTo_get (m k i : Nat) : (matTo m k)[i]? = if i < 32 then some (.int .u32 (if i < k then ((Crc.steps m (Crc.bit i)).toNat : Int) else 0)) else none := by
  unfold matTo
  rw [Array.getElem?_map, Array.getElem?_range]
  by_cases h : i < 32
  · rw [if_pos h, if_pos h]; rfl
  · rw [if_neg h, if_neg h]; rfl
theorem mat_size (m : Nat) : (mat m).size = 32 := by simp [mat]
theorem matTo_size (m k : Nat) : (matTo m k).size = 32 := by simp [matTo]
theorem matTo_zero (m : Nat) : matTo m 0 = z32 := by
  apply Array.ext_getElem?
  intro i
  rw [matTo_get]
  unfold z32
  rw [Array.getElem?_replicate]
  by_cases h : i < 32
  · rw [if_pos h, if_pos h, if_neg (by omega)]
  · rw [if_neg h, if_neg h]
theorem matTo_all (m : Nat) : matTo m 32 = mat m := by
  apply Array.ext_getElem?
  intro i
  rw [matTo_get]
  by_cases h : i < 32
  · rw [if_pos h, mat_get m i h, if_pos h]
  · rw [if_neg h, Array.getElem?_eq_none (by rw [mat_size]; omega)]
theorem matTo_set (m k : Nat) (h : k < 32) : (matTo m k).setIfInBounds k (.int .u32 ((Crc.steps m (Crc.bit k)).toNat : Int)) = matTo m (k + 1) := by
  apply Array.ext_getElem?
  intro i
  rw [Array.getElem?_setIfInBounds, matTo_get, matTo_get, matTo_size]
  by_cases e : k = i
  · subst e; rw [if_pos rfl, if_pos h, if_pos h, if_pos (by omega)]
  · rw [if_neg e]
    by_cases h4 : i < 32
    · rw [if_pos h4, if_pos h4]
      by_cases h3 : i < k
      · rw [if_pos h3, if_pos (by omega)]
      · rw [if_neg h3, if_neg (by omega)]
    · rw [if_neg h4, if_neg h4]
theorem mat_one (m : Nat) : (mat m).all (·.oneCell') = true := by
  rw [Array.all_eq_true_iff_forall_mem]
  intro v hv
  obtain ⟨i, hi, rfl⟩ := Array.mem_map.1 hv
  rfl
theorem infoM : (Try.prog.info? 72).map (·.size) = some 32 := by kernel_rfl
theorem allocM (w : World) : (Instr.alloc 72 true (.tuple #[])).run Try.prog w = .ok (.pointer (some ⟨w.heap.size, 0, none⟩)) (w.alloc (.cells z32 72)) := by kernel_rfl
theorem shr_bit (a : BitVec 32) (k : Nat) : (((a.toNat : Int) / 2 ^ k).tmod 2 == 1) = a.getLsbD k := by
  have h2 : a.getLsbD k = decide (a.toNat / 2 ^ k % 2 = 1) := by
    show a.toNat.testBit k = _
    rw [Nat.testBit_eq_decide_div_mod_eq]
  rw [h2, Bool.eq_iff_iff]
  have h3 : (a.toNat : Int) / 2 ^ k = ((a.toNat / 2 ^ k : Nat) : Int) := by push_cast; rfl
  rw [h3, Int.tmod_eq_emod_of_nonneg (Int.natCast_nonneg _)]
  simp only [beq_iff_eq, decide_eq_true_eq]
  omega
set_option maxRecDepth 100000 in
set_option maxHeartbeats 400000 in
theorem refBy_any (m : Nat) (a : BitVec 32) (w : World) :
    Calls Try.prog 41 #[.agg (mat m), .int .u32 (a.toNat : Int)] w fun e w' => e = .returned (.int .u32 ((Crc.steps m a).toNat : Int)) ∧ Below w.heap.size w w' := by
  have ha := a.isLt
  go_enter Try.func41, Try.ntmps41
  go_wp2
  have hrow : Row (w.alloc (.cells (mat m) 72)) w.heap.size 72 (mat m) := Row.new w _ _
  have hb0 := below_new w (.cells (mat m) 72)
  generalize w.alloc (.cells (mat m) 72) = W at *
  go_loop [5, 6] (fun v t => ∃ k : Nat, k ≤ 32 ∧ t = .int .i64 k ∧ v = .int .u32 ((Crc.pick (fun i => a.getLsbD i) (fun i => Crc.steps m (Crc.bit i)) k).toNat : Int)) (fun _ t => 32 - (intOf t).toNat)
  case atStart => exact ⟨0, by omega, rfl, rfl⟩
  case round =>
    obtain ⟨k, hk, rfl, rfl⟩ := hrel
    by_cases hlt : k < 32
    · have hc : W.cell? ⟨w.heap.size, k, none⟩ = some (.int .u32 ((Crc.steps m (Crc.bit k)).toNat : Int)) := (hrow.cell k).trans (mat_get m k hlt)
      have hb2 := shr_bit a k
      have hyl := (Crc.steps m (Crc.bit k)).isLt
      have hn : Crc.pick (fun i => a.getLsbD i) (fun i => Crc.steps m (Crc.bit i)) (k + 1) = Crc.pick (fun i => a.getLsbD i) (fun i => Crc.steps m (Crc.bit i)) k ^^^ (if a.getLsbD k then Crc.steps m (Crc.bit k) else 0#32) := rfl
      have HN := Lib.hid hn
      clear hn
      generalize Crc.pick (fun i => a.getLsbD i) (fun i => Crc.steps m (Crc.bit i)) k = z at *
      generalize Crc.steps m (Crc.bit k) = y at *
      have hzl := z.isLt
      have hx : bits .xor .u32 (z.toNat : Int) (y.toNat : Int) = ((z ^^^ y).toNat : Int) := Crc.u32_xor_bv z y
      cases hbit : a.getLsbD k
      · rw [hbit] at hb2 HN
        go_wp2
        go_round
        case rel => exact ⟨k + 1, by omega, by go_num, by rw [HN.out]; simp⟩
        case measure => simp [intOf]; omega
      · rw [hbit] at hb2 HN
        go_wp2
        go_round
        case rel => exact ⟨k + 1, by omega, by go_num, by rw [HN.out]; simp⟩
        case measure => simp [intOf]; omega
    · obtain rfl : k = 32 := by omega
      have hfin := Crc.by_steps a m
      have HF := Lib.hid hfin
      clear hfin
      go_wp2
      go_ret
      exact ⟨by rw [← HF.out]; rfl, hb0⟩
theorem bit_val (k : Nat) (h : k < 32) : (2 : Int) ^ k % 4294967296 = ((Crc.bit k).toNat : Int) := by
  rw [pow_u32 k h]
  unfold Crc.bit
  rw [BitVec.toNat_twoPow, Nat.mod_eq_of_lt (Nat.pow_lt_pow_right (by omega) h)]
theorem heldM {w' : World} {g j M : Nat} (h : Row w' g 72 (mat M)) (hj : j < 32) : w'.rangeAt g 0 (mat M).toList ∧ w'.cell? ⟨g, j, none⟩ = some (.int .u32 ((Crc.steps M (Crc.bit j)).toNat : Int)) :=
  ⟨h.range 0 _ (fun i v e => by rw [Nat.zero_add, ← Array.getElem?_toList]; exact e), (h.cell j).trans (mat_get _ j hj)⟩
theorem Row.of_below2 {w w' : World} {g : Nat} {t : TypeId} {cs : Array Value} (hb : Below w.heap.size w w') (h : Row w g t cs) : Row w' g t cs := h.belowAll hb
theorem Below.of_below {B : Nat} {w W W' : World} (hb : Below W.heap.size W W') (h : Below B w W) (hB : B ≤ W.heap.size) : Below B w W' := h.trans (hb.mono hB)
set_option maxRecDepth 100000 in
set_option maxHeartbeats 1000000 in
theorem refFar_any (x : BitVec 32) (n : Nat) (hn : n ≤ 1099511627776) (w : World) :
    Calls Try.prog 33 #[.int .u32 (x.toNat : Int), .int .i64 (n : Int)] w fun e w' => e = .returned (.int .u32 ((Crc.far x n).toNat : Int)) ∧ Below w.heap.size w w' := by
  have hz : Hid (matTo 8 0 = z32) := matTo_zero 8
  go_enter Try.func33, Try.ntmps33
  go_wp2_with (first
    | (with_reducible refine wpList_alloc rfl 72 rfl (allocM _) ?_))
  go_loopw [6] (fun t wr => ∃ k : Nat, k ≤ 32 ∧ t = .int .i64 k ∧ Row wr w.heap.size 72 (matTo 8 k) ∧ Below w.heap.size w wr) (fun t _ => 32 - (intOf t).toNat)
  case atStart => exact ⟨0, by omega, rfl, by rw [hz.out]; exact Row.new w _ _, below_new _ _⟩
  case round =>
    obtain ⟨k, hk, rfl, hrow, hb⟩ := hrel
    by_cases hlt : k < 32
    · have hc : wr.cell? ⟨w.heap.size, k, none⟩ = some ((matTo 8 k)[k]'(by rw [matTo_size]; exact hlt)) := (hrow.cell k).trans (Array.getElem?_eq_getElem _)
      have hf := hrow.frozen k
      have hbv := bit_val k hlt
      go_wp2_with (first | (go_at_call 28; refine (refByte_any (Crc.bit k) 0 _).mono ?_; rintro e w1 ⟨rfl, rfl⟩))
      go_roundw
      case rel => exact ⟨k + 1, by omega, by go_num, by rw [← matTo_set 8 k hlt, ← Crc.byteOn_zero]; exact (hrow.set k _), hb.setCell (p := ⟨w.heap.size, k, none⟩) (by simp) _⟩
      case measure => simp [intOf]; omega
    · obtain rfl : k = 32 := by omega
      rw [matTo_all] at hrow
      rw [show ((32 : Nat) : Int) = 32 from rfl]
      go_wp2
      go_loopw [0, 1] (fun v t wr => ∃ k : Nat, v = .int .u32 ((Crc.far x (n % 2 ^ k)).toNat : Int) ∧ t = .int .i64 ((n / 2 ^ k : Nat) : Int) ∧ Row wr w.heap.size 72 (mat (8 * 2 ^ k)) ∧ Below w.heap.size w wr) (fun _ t _ => (intOf t).toNat)
      case atStart => exact ⟨0, by simp [Nat.mod_one, Crc.far_zero], by simp, by simpa using hrow, hb⟩
      case round =>
        obtain ⟨k, rfl, rfl, hr, hbl⟩ := hrel
        clear hrow hb
        have hle : n / 2 ^ k ≤ 1099511627776 := Nat.le_trans (Nat.div_le_self _ _) hn
        have hms := Crc.mod_pow_succ n k
        have hdv : n / 2 ^ (k + 1) = n / 2 ^ k / 2 := by rw [Nat.pow_succ, Nat.div_div_eq_div_mul]
        have HS := Lib.hid hms
        have HD := Lib.hid hdv
        have hZ : n / 2 ^ k = 0 → n % 2 ^ k = n := fun h => by
          rcases Nat.div_eq_zero_iff.1 h with h | h
          · exact absurd h (Nat.ne_of_gt (Nat.two_pow_pos k))
          · exact Nat.mod_eq_of_lt h
        have HZ := Lib.hid hZ
        clear hms hdv hZ
        generalize n / 2 ^ k = q at *
        by_cases hpos : 0 < q
        · have hgt : decide ((0 : Int) < (q : Int)) = true := by simp; omega
          go_upto_if 25 with (fail)
          go_cut [0] (fun v W => v = .int .u32 ((Crc.far x (n % 2 ^ (k + 1))).toNat : Int) ∧ Row W w.heap.size 72 (mat (8 * 2 ^ k)) ∧ Below w.heap.size w W)
          case first =>
            by_cases hbit : q % 2 = 1
            · have hd : ((q : Int) % 2 == 1) = true := by rw [beq_iff_eq]; omega
              have HB := Lib.hid hbit
              clear hbit
              go_wp2_with (first
                | (refine wpList_load_row rfl 72 (.tmp 5) rfl w.heap.size rfl 72 (mat (8 * 2 ^ k)) (0, 0) _ hr Try.underlying72 rfl (by rw [mat_size]; exact infoM) ?_)
                | (go_at_call 41; refine (refBy_any (8 * 2 ^ k) (Crc.far x (n % 2 ^ k)) _).mono ?_; rintro e w1 ⟨rfl, hb1⟩))
              go_meet
              exact ⟨by rw [HS.out, if_pos HB.out, Crc.far_add]; rfl, hr.belowAll hb1, hbl.trans (hb1.mono hbl.size)⟩
            · have hd : ((q : Int) % 2 == 1) = false := by rw [beq_eq_false_iff_ne]; omega
              have HB := Lib.hid hbit
              clear hbit
              go_wp2
              go_meet
              exact ⟨by rw [HS.out, if_neg HB.out]; rfl, hr, hbl⟩
          case rest =>
            obtain ⟨rfl, hr1, hb1⟩ := hcut
            go_wp2_with (first
              | (with_reducible refine wpList_alloc rfl 72 rfl (allocM _) ?_))
            obtain ⟨wo, rfl⟩ : ∃ wo : World, wo = wr := ⟨_, rfl⟩
            have hz2 : Hid (matTo (8 * 2 ^ (k + 1)) 0 = z32) := matTo_zero _
            have hlt0 : w.heap.size < wc.heap.size := hr1.lt
            have hb2 : Below w.heap.size w (wc.alloc (.cells z32 72)) := hb1.alloc hb1.size _
            have hr2 := hr1.alloc (.cells z32 72)
            have hrt := Row.new wc 72 z32
            clear hr hbl hr1 hb1
            go_loopw [8] (fun t wr => ∃ j : Nat, j ≤ 32 ∧ t = .int .i64 j ∧ Row wr wc.heap.size 72 (matTo (8 * 2 ^ (k + 1)) j) ∧ Row wr w.heap.size 72 (mat (8 * 2 ^ k)) ∧ Below w.heap.size w wr) (fun t _ => 32 - (intOf t).toNat)
            case atStart => exact ⟨0, by omega, rfl, by rw [hz2.out]; exact hrt, hr2, hb2⟩
            case round =>
              obtain ⟨j, hj, rfl, hrj, hrm, hbj⟩ := hrel
              clear hrt hr2 hb2
              by_cases hlt : j < 32
              · have hcj : wr.cell? ⟨wc.heap.size, j, none⟩ = some ((matTo (8 * 2 ^ (k + 1)) j)[j]'(by rw [matTo_size]; exact hlt)) := (hrj.cell j).trans (Array.getElem?_eq_getElem _)
                have hfj := hrj.frozen j
                have hcm : wr.cell? ⟨w.heap.size, j, none⟩ = some (.int .u32 ((Crc.steps (8 * 2 ^ k) (Crc.bit j)).toNat : Int)) := (hrm.cell j).trans (mat_get _ j hlt)
                have hrg : wr.rangeAt w.heap.size 0 (mat (8 * 2 ^ k)).toList := hrm.range 0 _ (fun i v e => by rw [Nat.zero_add, ← Array.getElem?_toList]; exact e)
                have hu := Try.underlying72
                have hi : (Try.prog.info? 72).map (·.size) = some (mat (8 * 2 ^ k)).toList.length := by rw [Array.length_toList, mat_size]; exact infoM
                have hln : (mat (8 * 2 ^ k)).toList.length = 32 := by rw [Array.length_toList, mat_size]
                have h1c : ∀ v ∈ (mat (8 * 2 ^ k)).toList, v.oneCell' = true := fun v hv => by
                  have := mat_one (8 * 2 ^ k)
                  rw [Array.all_eq_true_iff_forall_mem] at this
                  exact this v (Array.mem_toList_iff.1 hv)
                have hji : (0 : Int) ≤ (j : Int) := by omega
                have hji2 : (j : Int) < 32 := by omega
                go_wp2_with fail
                go_region_held3 (fun w' => w'.rangeAt w.heap.size 0 (mat (8 * 2 ^ k)).toList ∧ w'.cell? ⟨w.heap.size, j, none⟩ = some (.int .u32 ((Crc.steps (8 * 2 ^ k) (Crc.bit j)).toNat : Int))) (first | exact heldM hrm.drew hlt | exact heldM hrm1 hlt | exact heldM (hrm1.far (Nat.ne_of_lt hlt0) _) hlt)
                  (first | (go_at_call 41; refine (refBy_any (8 * 2 ^ k) (Crc.steps (8 * 2 ^ k) (Crc.bit j)) _).mono ?_; rintro e w1 ⟨rfl, hb1⟩; have hrj1 := Row.of_below2 hb1 (show Row _ wc.heap.size 72 (matTo (8 * 2 ^ (k + 1)) j) from hrj); have hrm1 := Row.of_below2 hb1 (show Row _ w.heap.size 72 (mat (8 * 2 ^ k)) from hrm); have hcj1 := (hrj1.cell j).trans (Array.getElem?_eq_getElem (by rw [matTo_size]; exact hlt)); have hfj1 := hrj1.frozen j; have hbw1 := Below.of_below hb1 (show Below w.heap.size w _ from hbj.drew) (by have := hbj.size; simp; omega)))
                go_wp2
                go_roundw
                case rel =>
                  refine ⟨j + 1, by omega, by go_num, ?_, hrm1.far (Nat.ne_of_lt hlt0) _, hbw1.setCell (p := ⟨wc.heap.size, j, none⟩) (Nat.le_of_lt hlt0) _⟩
                  rw [← matTo_set _ j hlt, show 8 * 2 ^ (k + 1) = 8 * 2 ^ k + 8 * 2 ^ k from by rw [Nat.pow_succ]; omega, Crc.steps_add]
                  rw [show 8 * 2 ^ (k + 1) = 8 * 2 ^ k + 8 * 2 ^ k from by rw [Nat.pow_succ]; omega] at hrj1
                  exact hrj1.set j _
                case measure => simp [intOf]; omega
              · obtain rfl : j = 32 := by omega
                rw [matTo_all] at hrj
                go_wp2_with (first
                  | (refine wpList_load_row rfl 72 (.tmp 7) rfl wc.heap.size rfl 72 (mat (8 * 2 ^ (k + 1))) (0, 0) _ hrj Try.underlying72 rfl (by rw [mat_size]; exact infoM) ?_)
                  | (refine wpList_store rfl 72 (.tmp 5) (.tmp 40) rfl (.pointer (some ⟨w.heap.size, 0, none⟩)) (.agg (mat (8 * 2 ^ (k + 1)))) rfl rfl (run_store_row hrm (mat (8 * 2 ^ (k + 1))) (by rw [mat_size]; exact infoM) (by simp [mat_size]) (mat_one _)) ?_))
                go_roundw
                case rel =>
                  refine ⟨k + 1, rfl, by rw [HD.out]; go_num, ?_, hbj.trans (below_of_grown (grown_setCells _ _ _) (Nat.le_refl _) hbj.size)⟩
                  have hr2 := row_setCells (mat (8 * 2 ^ (k + 1))).toList 0 wr _ hrm
                  rw [setFrom_whole _ _ (by simp [mat_size]), Array.toArray_toList] at hr2
                  exact hr2
                case measure => simp [intOf]; omega
        · obtain rfl : q = 0 := by omega
          have hF : Crc.far x (n % 2 ^ k) = Crc.far x n := by rw [HZ.out rfl]
          have HF := Lib.hid hF
          clear hF
          go_wp2
          go_ret
          exact ⟨by rw [← HF.out]; rfl, hbl⟩
end Go.Proofs.Ytkgpagkhheglgaa
