/- Walks: bytes taken by a sum under way; the sum of parts, and one that goes on. -/
import Derived.Test.YtkgpagkhheglgaaCrcW1b
namespace Go.Proofs.Ytkgpagkhheglgaa
open Go.RowKit
set_option maxRecDepth 100000 in
set_option maxHeartbeats 400000 in
theorem take_any (g : Nat) (A : Option Addr) (n cap : Nat) (l : List UInt8) (x : BitVec 32) (w : World) (hn : l.length = n) (hm : n ≤ 1099511627776) (hr : Rd w A l) (hrow : Row w g 57 (rc x)) (hne : ∀ b o, A = some ⟨b, o, none⟩ → l ≠ [] → b ≠ g) :
    Calls Try.prog 27 #[.pointer (some ⟨g, 0, none⟩), .slice A n cap] w fun e w' => e = .returned (.tuple #[]) ∧ Row w' g 57 (rc (Crc.run x l)) ∧ w.grownBy w' (some g) := by
  subst hn
  go_enter Try.func27, Try.ntmps27
  go_wp2
  go_loopw [8] (fun t wr => ∃ k : Nat, k ≤ l.length ∧ t = .int .i64 k ∧ Row wr g 57 (rc (Crc.run x (l.take k))) ∧ w.grownBy wr (some g)) (fun t _ => l.length - (intOf t).toNat)
  case atStart => exact ⟨0, by omega, rfl, by simpa [Crc.run] using hrow, grown_refl _ _⟩
  case round =>
    obtain ⟨k, hk, rfl, hrw, hg⟩ := hrel
    by_cases hlt : k < l.length
    · obtain ⟨b, o, rfl, hc⟩ := hr.at_ hlt
      have hbg : b ≠ g := hne b o rfl (by intro e; subst e; simp at hlt)
      have hc1 : wr.cell? ⟨b, o + k, none⟩ = some (byteV l[k]) := by
        rw [World.cell?_of_block (w := w) (hg.block b (block_lt_of_cell hc) (by intro e; injection e; contradiction))]; exact hc
      obtain ⟨y, hy⟩ : ∃ y, Crc.run x (l.take k) = y := ⟨_, rfl⟩
      have hnext : Crc.run x (l.take (k + 1)) = Crc.byteOn y l[k] := by
        rw [List.take_succ_eq_append_getElem hlt, Crc.run_snoc, hy]
      rw [hy] at hrw
      have hyl := y.isLt
      have hcl : l[k].toNat < 256 := l[k].toNat_lt
      have h0 : wr.cell? ⟨g, 0, none⟩ = some (.int .u32 (y.toNat : Int)) := (hrw.cell 0).trans (rc_get0 _)
      have hf0 := hrw.frozen 0
      have HN := Lib.hid hnext
      clear hnext
      generalize l[k] = c at *
      replace hc1 : wr.cell? ⟨b, o + k, none⟩ = some (.int .u8 (c.toNat : Int)) := hc1
      obtain ⟨j, hj⟩ : ∃ j : Nat, j = (y.toNat % 256) ^^^ c.toNat := ⟨_, rfl⟩
      have hjl : j < 256 := by rw [hj]; exact Nat.xor_lt_two_pow (n := 8) (by omega) hcl
      have hjb : bits .xor .u8 ((y.toNat : Int) % 256) (c.toNat : Int) = (j : Int) := by rw [hj]; exact u8_xor_nat (y.toNat % 256) c.toNat (by omega) hcl
      have hcj : wr.cell? ⟨g, 1 + j, none⟩ = some (.int .u32 ((Crc.tab j).toNat : Int)) := by rw [Nat.add_comm]; exact (hrw.cell (j + 1)).trans (rc_get _ _ hjl)
      have HJ := Lib.hid hj
      clear hj hy hc
      have htl := (Crc.tab j).isLt
      go_wp2
      go_region
      go_wp2
      rw [Crc.take_val y c j HJ.out]
      go_roundw
      case rel => exact ⟨k + 1, by omega, by go_num, by rw [HN.out, ← rc_set y]; exact (hrw.set 0 _), grown_drew (grown_trans hg (grown_set wr g 0 _))⟩
      case measure => simp [intOf]; omega
    · obtain rfl : k = l.length := by omega
      rw [List.take_length] at hrw
      go_wp2
      go_end0
      exact ⟨rfl, hrw, hg⟩

theorem not_val (s : BitVec 32) : bits .xor .u32 IntKind.u32.max (s.toNat : Int) = ((~~~s).toNat : Int) := by
  have h : IntKind.u32.max = ((BitVec.allOnes 32).toNat : Int) := by decide
  rw [h, Crc.u32_xor_bv, BitVec.allOnes_xor]
set_option maxRecDepth 100000 in
set_option maxHeartbeats 400000 in
theorem more_any (s : BitVec 32) (A : Option Addr) (n cap : Nat) (ls : List (List UInt8)) (w : World) (hn : ls.length = n) (hm : n ≤ 1099511627776) (hp : ∀ l ∈ ls, l.length ≤ 1099511627776) (hr : Rds w A ls) :
    Calls Try.prog 13 #[.int .u32 (s.toNat : Int), .slice A n cap] w fun e w' => e = .returned (.int .u32 ((Crc.more s ls.flatten).toNat : Int)) ∧ Below w.heap.size w w' := by
  subst hn
  have hsl := s.isLt
  obtain ⟨y, hy⟩ : ∃ y, y = ~~~s := ⟨_, rfl⟩
  have hyb : bits .xor .u32 IntKind.u32.max (s.toNat : Int) = (y.toNat : Int) := by rw [hy]; exact not_val s
  have HY := Lib.hid hy
  have HP := Lib.hid hp
  clear hy hp
  have hsg : IntKind.u32.signed = false := rfl
  go_enter Try.func13, Try.ntmps13
  go_wp2_with (first
    | (go_at_call 16; refine (table_any _).mono ?_; rintro e w1 ⟨rfl, hb1⟩)
    | (with_reducible refine wpList_alloc rfl 57 rfl (alloc57 _) ?_)
    | (refine wpList_build2 rfl 57 0 1 (.tmp 10) (.tmp 11) rfl (.agg #[.int .u32 (y.toNat : Int)]) (.agg tabCells) rfl rfl (build57b _ _) ?_)
    | (refine wpList_store rfl 57 (.tmp 5) (.tmp 12) rfl (.pointer (some ⟨w1.heap.size, 0, none⟩)) (.agg (rc y)) rfl rfl (store57y y _) ?_))
  have hr1 := hr.below hb1
  go_loopw [15] (fun t wr => ∃ k : Nat, k ≤ ls.length ∧ t = .int .i64 k ∧ Row wr w1.heap.size 57 (rc (Crc.run y (ls.take k).flatten)) ∧ Below w1.heap.size w1 wr) (fun t _ => ls.length - (intOf t).toNat)
  case atStart => exact ⟨0, by omega, rfl, by simpa [Crc.run] using Row.new w1 57 _, (Below.refl _ _).alloc (Nat.le_refl _) _⟩
  case round =>
    obtain ⟨k, hk, rfl, hrw, hb⟩ := hrel
    by_cases hlt : k < ls.length
    · obtain ⟨b, o, Ai, ci, rfl, hc1, hrd1⟩ := hr1.at_ hlt
      have hc : wr.cell? ⟨b, o + k, none⟩ = some (.slice Ai ls[k].length ci) := (hb.cell (p := ⟨b, o + k, none⟩) (block_lt_of_cell hc1)).trans hc1
      have hrd := hrd1.below hb
      have hlt1 := fun (b' o' : Nat) (e : Ai = some ⟨b', o', none⟩) (hl : ls[k] ≠ []) => Nat.ne_of_lt (hrd1.lt e hl)
      have hnext : Crc.run y (ls.take (k + 1)).flatten = Crc.run (Crc.run y (ls.take k).flatten) ls[k] := by
        rw [List.take_succ_eq_append_getElem hlt, List.flatten_append, Crc.run_append]; simp
      have hpl : ls[k].length ≤ 1099511627776 := HP.out _ (List.getElem_mem hlt)
      have HN := Lib.hid hnext
      have HL := Lib.hid hlt1
      clear hnext hlt1 hc1 hrd1
      generalize Crc.run y (ls.take k).flatten = z at *
      generalize ls[k] = l at *
      go_wp2_with (first | (go_at_call 27; refine (take_any w1.heap.size Ai _ ci l z _ rfl hpl hrd hrw HL.out).mono ?_; rintro e w2 ⟨rfl, hrw2, hg2⟩))
      go_roundw
      case rel => exact ⟨k + 1, by omega, by go_num, by rw [HN.out]; exact hrw2, hb.trans (below_of_grown hg2 (Nat.le_refl _) hb.size)⟩
      case measure => simp [intOf]; omega
    · obtain rfl : k = ls.length := by omega
      rw [List.take_length] at hrw
      obtain ⟨z, hz⟩ : ∃ z, Crc.run y ls.flatten = z := ⟨_, rfl⟩
      obtain ⟨v, hv⟩ : ∃ v, v = ~~~z := ⟨_, rfl⟩
      have hzb : bits .xor .u32 IntKind.u32.max (z.toNat : Int) = (v.toNat : Int) := by rw [hv]; exact not_val z
      have hfin : Crc.more s ls.flatten = v := by rw [Crc.more, ← HY.out, hz, hv]
      have HF := Lib.hid hfin
      rw [hz] at hrw
      clear hz hv hfin
      have h0 := (hrw.cell 0).trans (rc_get0 _)
      have hzl := z.isLt
      go_wp2
      go_ret
      exact ⟨by rw [HF.out]; rfl, hb1.trans (hb.mono hb1.size)⟩
set_option maxHeartbeats 400000 in
theorem sum_any (A : Option Addr) (n cap : Nat) (ls : List (List UInt8)) (w : World) (hn : ls.length = n) (hm : n ≤ 1099511627776) (hp : ∀ l ∈ ls, l.length ≤ 1099511627776) (hr : Rds w A ls) :
    Calls Try.prog 12 #[.slice A n cap] w fun e w' => e = .returned (.int .u32 ((Crc.sum ls.flatten).toNat : Int)) ∧ Below w.heap.size w w' := by
  have HP := Lib.hid hp
  have HN := Lib.hid hn
  clear hp hn
  go_enter Try.func12, Try.ntmps12
  go_wp2_with (first | (go_at_call 13; refine (more_any 0#32 A n cap ls _ HN.out hm HP.out hr).mono ?_; rintro e w1 ⟨rfl, hb1⟩))
  go_ret
  exact ⟨rfl, hb1⟩
end Go.Proofs.Ytkgpagkhheglgaa
