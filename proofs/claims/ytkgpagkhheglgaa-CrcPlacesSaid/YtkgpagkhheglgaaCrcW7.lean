/- Walks: the powers that an iterator hands on; a word so many noughts on. -/
import Derived.Test.YtkgpagkhheglgaaCrcW6
import Derived.Test.YtkgpagkhheglgaaRange
namespace Go.Proofs.Ytkgpagkhheglgaa
open Go.RowKit Go.Shelf
attribute [local go_sem] Oper.semAt_some
def powAt (k : Nat) : BitVec 32 := Crc.steps (8 * 2 ^ k) Crc.one
def powEnc (n k : Nat) : Array Value := #[.int .u32 ((powAt k).toNat : Int), .bool (decide (n / 2 ^ k % 2 = 1))]
def cellNat (b : Nat) (W : World) : Nat := match W.cell? ⟨b, 0, none⟩ with
  | some (.int _ z) => z.toNat
  | _ => 0
theorem cellNat_of {b m : Nat} {W : World} {k : IntKind} (h : W.cell? ⟨b, 0, none⟩ = some (.int k (m : Int))) : cellNat b W = m := by simp [cellNat, h]
theorem grown_of_below {X Y : World} (h : Below X.heap.size X Y) : X.grownBy Y none := ⟨h.os, h.tape, h.output, h.size, fun k hk _ => h.block k hk⟩
theorem powAt_zero : ((powAt 0).toNat : Int) = 8388608 := by decide +kernel
theorem powAt_succ (k : Nat) : Crc.times (powAt k) (powAt k) = powAt (k + 1) := by
  unfold powAt
  rw [Crc.pw_twice, Nat.pow_succ]
  congr 1
  omega
theorem times_powAt (y : BitVec 32) (k : Nat) : Crc.times y (powAt k) = Crc.far y (2 ^ k) := Crc.times_pw y _
theorem lt_of_div {n k : Nat} (h : n / 2 ^ k = 0) : n < 2 ^ k := by
  rcases Nat.div_eq_zero_iff.1 h with h | h
  · exact absurd h (Nat.ne_of_gt (Nat.two_pow_pos k))
  · exact h
theorem test_odd (m : Nat) : ((m : Int) % 2 == 1) = decide (m % 2 = 1) := by
  rw [Bool.eq_iff_iff]; simp; omega
set_option maxHeartbeats 1000000 in
theorem powers1_seq (n : Nat) (b : Nat) (hn : n ≤ 1099511627776) (w : World) (m : Nat) (hm : 1 ≤ m) (hrow : Row w b 2 #[.int .i64 (n : Int)]) :
    SeqC Fence.wide m Try.prog 43 #[.pointer (some ⟨b, 0, none⟩)] (powEnc n) (fun X Y => Y.heap[b]? = X.heap[b]?) (fun xs => n / 2 ^ xs.length = 0) (fun _ => True) (fun pre k => k = pre.length) (fun r => r = b) w := fun l J Jx W hW hJ hJx hY h0 => by
  have hrw : Row W b 2 #[.int .i64 (n : Int)] := hrow.belowAll hW
  have HY := Lib.hid hY
  have HJ := Lib.hid hJ
  have h8 := powAt_zero
  have H8 := Lib.hid h8
  clear hY hJ hJx hrow hW h8
  refine callsIn_of_wp Try.func43 rfl trivial ?_ rfl
  simp only [Try.ntmps43, List.size_toArray, List.length_cons, List.length_nil, Nat.reduceAdd, Nat.reduceSub, Array.replicate_succ, Array.replicate_zero, List.push_toArray, List.append_toArray, List.nil_append, List.cons_append]
  gi_wp2
  refine wpIn_scope_wide ?_
  gi_wp2
  refine wpIn_label ?_
  gi_wp2
  gi_loopw [3] (fun v wr => ∃ (pre : List Nat), v = .int .u32 ((powAt pre.length).toNat : Int) ∧ Row wr b 2 #[.int .i64 ((n / 2 ^ pre.length : Nat) : Int)] ∧ J pre wr) (fun _ wr => cellNat b wr)
  case atStart => exact ⟨[], by rw [List.length_nil, H8.out], by simpa using hrw, h0⟩
  case round =>
    obtain ⟨pre, rfl, hr, hJs⟩ := hrel
    have hc := hr.cell 0
    have hf := hr.frozen 0
    obtain ⟨fn, tmps, assign, body, hy, hR⟩ := HY.out pre pre.length wr hJs rfl
    have HS := Lib.hid (powAt_succ pre.length)
    have hod := test_odd (n / 2 ^ pre.length)
    have hdv : n / 2 ^ (pre.length + 1) = n / 2 ^ pre.length / 2 := by rw [Nat.pow_succ, Nat.div_div_eq_div_mul]
    have HD := Lib.hid hdv
    clear hdv
    unfold powEnc at hy
    have hle : n / 2 ^ pre.length ≤ 1099511627776 := Nat.le_trans (Nat.div_le_self _ _) hn
    obtain ⟨q, hq⟩ : ∃ q, n / 2 ^ pre.length = q := ⟨_, rfl⟩
    rw [hq] at hod hle hy hc hr HD
    by_cases hpos : 0 < q
    · have hgt : decide ((0 : Int) < (q : Int)) = true := by simp; omega
      have HZ := Lib.hid hq
      clear hq
      gi_wp2
      refine hR.mono ?_
      rintro e W3 (⟨rfl, hJ3, hk3⟩ | ⟨rfl, hJx3⟩)
      · have hr3 : Row W3 b 2 #[.int .i64 (q : Int)] := hk3.trans hr
        clear hk3
        gi_wp2_with (refine ⟨trivial, ?_⟩; gi_at_call 40; refine (callsIn_wide.2 (times_any _ _ _)).mono ?_; rintro e W4 ⟨rfl, hb4⟩; have hr4 := hr3.belowAll hb4; have hc4 := hr4.cell 0; have hf4 := hr4.frozen 0)
        go_roundw
        case rel =>
          refine ⟨pre ++ [pre.length], by rw [HS.out]; simp, ?_, HJ.out _ _ _ _ (HJ.out _ _ _ _ hJ3 (grown_of_below hb4) (fun r e => by cases e)) (grown_set W4 b 0 _) (fun r e => by cases e; rfl)⟩
          rw [List.length_append, List.length_singleton, HD.out]
          have := hr4.set 0 (.int .i64 ((q / 2 : Nat) : Int))
          exact this
        case measure =>
          rw [cellNat_of (W := wr) hc, cellNat_of (m := q / 2) (k := .i64) (by exact (hr4.set 0 (.int .i64 ((q / 2 : Nat) : Int))).cell 0)]
          omega
      · gi_wp2
        rw [Exit.noGoto_normal]
        go_end0
        exact ⟨⟨_, rfl⟩, .inr ⟨_, trivial, hJx3⟩⟩
    · obtain rfl : q = 0 := by omega
      have HZ := Lib.hid hq
      clear hq
      gi_wp2
      rw [Exit.noGoto_normal]
      go_end0
      exact ⟨⟨_, rfl⟩, .inl ⟨pre, HZ.out, hJs⟩⟩
theorem powers_any (n : Int) (w : World) : Calls Try.prog 39 #[.int .i64 n] w fun e w' => e = .returned (.func (.func 43) #[] #[.pointer (some ⟨w.heap.size, 0, none⟩)]) ∧ (w.alloc (.cells #[.int .i64 n] 2)) = w' := by
  go_enter Try.func39, Try.ntmps39
  go_wp2
  go_ret
  exact ⟨rfl, rfl⟩
set_option maxRecDepth 100000 in
set_option maxHeartbeats 1000000 in
theorem far_any (x : BitVec 32) (n : Nat) (hn : n ≤ 1099511627776) (w : World) :
    Calls Try.prog 32 #[.int .u32 (x.toNat : Int), .int .i64 (n : Int)] w fun e w' => e = .returned (.int .u32 ((Crc.far x n).toNat : Int)) ∧ Below w.heap.size w w' := by
  refine (callsIn_wide (n := 6)).1 ?_
  refine callsIn_of_wp_marks Try.func32 rfl trivial ?_ rfl
  simp only [Try.ntmps32, List.size_toArray, List.length_cons, List.length_nil, Nat.reduceAdd, Nat.reduceSub, Array.replicate_succ, Array.replicate_zero, List.push_toArray, List.append_toArray, List.nil_append, List.cons_append]
  gi_wp2_with (refine ⟨trivial, ?_⟩; gi_at_call 39; refine (callsIn_wide.2 (powers_any _ _)).mono ?_; rintro e W1 ⟨rfl, rfl⟩)
  have hb0 : Below w.heap.size w ((w.alloc (.cells #[.int .u32 (x.toNat : Int)] 23)).alloc (.cells #[.int .i64 (n : Int)] 2)) := below_new2 _ _ _
  have hrn : Row ((w.alloc (.cells #[.int .u32 (x.toNat : Int)] 23)).alloc (.cells #[.int .i64 (n : Int)] 2)) (w.heap.size + 1) 2 #[.int .i64 (n : Int)] := by
    have := Row.new (w.alloc (.cells #[.int .u32 (x.toNat : Int)] 23)) 2 #[.int .i64 (n : Int)]
    rwa [World.size_alloc] at this
  refine wpIn_range_C rfl (by omega) (gf := 43) (lb := #[.pointer (some ⟨w.heap.size + 1, 0, none⟩)]) rfl trivial (enters_of Try.func43 (by kernel_rfl) rfl)
    (powers1_seq n (w.heap.size + 1) hn _ 5 (by omega) hrn) (fun r e => by rw [e]; simp) (fun h k => k.trans h) (fun W l o hl => World.putObj_heap_other (by simp at hl; omega)) (Below.refl _ _) (fun _ => rfl)
    (fun pre W => (Row W w.heap.size 23 #[.int .u32 ((Crc.far x (n % 2 ^ pre.length)).toNat : Int)]) ∧ Below w.heap.size w W) (fun _ _ _ => False)
    ((stab_block (by omega) (fun pre : List Nat => #[.int .u32 ((Crc.far x (n % 2 ^ pre.length)).toNat : Int)]) 23).and (stab_below (Nat.le_refl _) (by simp; omega) (fun r e => by rw [e]; omega)))
    (fun _ => stab_false _ _) ⟨by simpa [Nat.mod_one, Crc.far_zero] using (Row.new w 23 _).alloc _, hb0⟩
    (fun _ k a' _ => a' = { tmps := #[.int .u32 (x.toNat : Int), .int .i64 (n : Int), .pointer (some ⟨w.heap.size, 0, none⟩), undef, .int .u32 0, .int .u32 ((powAt k).toNat : Int), .bool (decide (n / 2 ^ k % 2 = 1)), .int .i64 (n : Int), .func (.func 43) #[] #[.pointer (some ⟨w.heap.size + 1, 0, none⟩)], .int .u32 ((powAt k).toNat : Int), .bool (decide (n / 2 ^ k % 2 = 1)), undef, undef, undef, undef, undef], defers := [] })
    (fun _ _ _ _ _ _ _ hs _ _ => hs) ?assign ?body ?done ?stop
  case assign =>
    intro l pre k W K hi hok hK
    have HK := Lib.hid hK
    have HI := Lib.hid hi
    clear hK hi hok
    unfold powEnc
    gi_wp2
    exact HK.out _ _ (KeepsFrom.refl _ _) rfl HI.out rfl
  case body =>
    rintro l pre k a' W hl hlo ⟨hr, hb⟩ rfl rfl
    have hc := hr.cell 0
    have hf := hr.frozen 0
    have hms := Crc.mod_pow_succ n pre.length
    have HS := Lib.hid hms
    have hlt : w.heap.size + 1 < W.heap.size := by
      obtain ⟨r, hlo⟩ := hlo
      have := (Array.getElem?_eq_some_iff.1 hlo).1
      simp at hl
      omega
    clear hms hlo hrn hb0
    by_cases hbit : n / 2 ^ pre.length % 2 = 1
    · have hd : decide (n / 2 ^ pre.length % 2 = 1) = true := decide_eq_true hbit
      have HB := Lib.hid hbit
      clear hbit
      gi_wp2_with (refine ⟨trivial, ?_⟩; gi_at_call 40; refine (CallsIn.inRound l (callsIn_wide.2 (times_any _ _ _))).mono ?_; rintro e W4 ⟨rfl, hb4⟩; have hr4 := hr.belowAll hb4; have hc4 := hr4.cell 0; have hf4 := hr4.frozen 0)
      refine ⟨KeepsFrom.trans (KeepsFrom.of_grownBy (grown_of_below hb4) (fun j e => by cases e)) ((KeepsOthers.setCell _ _ _).from _), ?_, ?_, (hb.trans (hb4.mono hb.size)).setCell (p := ⟨w.heap.size, 0, none⟩) (Nat.le_refl _) _⟩
      · exact (heap_setCell_other W4 _ _ _ (by simp)).trans (hb4.block _ hlt)
      · rw [List.length_append, List.length_singleton, HS.out, if_pos HB.out, Crc.far_add, ← times_powAt]
        exact hr4.set 0 _
    · have hd : decide (n / 2 ^ pre.length % 2 = 1) = false := decide_eq_false hbit
      have HB := Lib.hid hbit
      clear hbit
      gi_wp2
      exact ⟨KeepsFrom.refl _ _, rfl, by rw [List.length_append, List.length_singleton, HS.out, if_neg HB.out]; exact hr, hb⟩
  case done =>
    rintro D xs W hD hS ⟨hr, hb⟩ hK
    have hc := hr.cell 0
    have HS := Lib.hid hS
    clear hS hrn hb0
    gi_wp2
    refine ⟨by simp, .inl ⟨_, _, rfl, run_takeDeferred hK, ?_⟩⟩
    refine ⟨_, results_tmp rfl _ _ _, ?_, ?_⟩
    · rw [Nat.mod_eq_of_lt (lt_of_div HS.out)]; rfl
    · exact hb.trans (belowK_b (w := w) (Nat.le_refl _) W D _ _ (by simp at hD; omega) hK rfl rfl)
  case stop =>
    rintro D c pre W _ _ h _
    exact h.elim
end Go.Proofs.Ytkgpagkhheglgaa
