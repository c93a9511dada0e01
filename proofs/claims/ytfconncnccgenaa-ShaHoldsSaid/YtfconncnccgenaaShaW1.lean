/- Walks: a word that is rotated; the xor of a word's rotations; a number told by bytes. -/
import Derived.Test.YtfconncnccgenaaRows
import Derived.Test.YtfconncnccgenaaShaMath
import Derived.Test.YtfconncnccgenaaOps
import Derived.WalkKit
import Derived.WalkSpells
import Derived.WalkLawsBesides
import Derived.BigRegion
import Derived.BigQuiet
import Derived.IntWalk
import Derived.Outline
set_option linter.unusedVariables false
set_option linter.unusedSimpArgs false
namespace Go.Proofs.Ytfconncnccgenaa
open Go.RowKit
theorem u64_and31 (s : Nat) (h : s < 18446744073709551616) : bits .and .u64 (s : Int) 31 = ((s % 32 : Nat) : Int) := by
  rw [show (31 : Int) = ((31 : Nat) : Int) from rfl, u64_and_nat _ _ h (by decide), nat_mask5]
theorem rotl_val (x : BitVec 32) (k : Nat) (h1 : 1 ≤ k) (h2 : k ≤ 31) : bits .or .u32 ((x.toNat : Int) * 2 ^ k % 4294967296) ((x.toNat : Int) / 2 ^ (32 - k)) = ((Sha.ror x (32 - k)).toNat : Int) := by
  rw [bv_shl, bv_shr, bv_or, Sha.ror, BitVec.or_comm, show 32 - (32 - k) = k from by omega]
theorem rotl_up (x : BitVec 32) (k : Nat) (h1 : 1 ≤ k) (h2 : k ≤ 31) (w : World) :
    Calls Try.prog 54 #[.int .u32 (x.toNat : Int), .int .i64 (k : Int)] w fun e w' => e = .returned (.int .u32 ((Sha.ror x (32 - k)).toNat : Int)) ∧ w = w' := by
  have hx := x.isLt
  have ha := u64_and31 k (by omega)
  rw [Nat.mod_eq_of_lt (by omega)] at ha
  go_enter Try.func54, Try.ntmps54
  go_wp2
  go_ret
  exact ⟨ret_u32 (rotl_val x k h1 h2), rfl⟩
theorem rotl_down (x : BitVec 32) (n : Nat) (h1 : 1 ≤ n) (h2 : n ≤ 31) (w : World) :
    Calls Try.prog 54 #[.int .u32 (x.toNat : Int), .int .i64 (-(n : Int))] w fun e w' => e = .returned (.int .u32 ((Sha.ror x n).toNat : Int)) ∧ w = w' := by
  have hx := x.isLt
  obtain ⟨k, hk⟩ : ∃ k, 32 - n = k := ⟨_, rfl⟩
  have ha := u64_and31 (18446744073709551616 - n) (by omega)
  rw [show (18446744073709551616 - n) % 32 = k from by omega] at ha
  have hw : IntKind.u64.wrap (-(n : Int)) = ((18446744073709551616 - n : Nat) : Int) := by simp [IntKind.wrap, IntKind.bits, IntKind.signed]; omega
  have hkn : n = 32 - k := by omega
  have hk1 : 1 ≤ k := by omega
  have hk2 : k ≤ 31 := by omega
  rw [← hw] at ha
  have HK := Lib.hid hkn
  clear hk hw hkn
  go_enter Try.func54, Try.ntmps54
  go_wp2
  go_ret
  exact ⟨ret_u32 (by rw [HK.out]; exact rotl_val x k hk1 hk2), rfl⟩
theorem rotl_sub (x : BitVec 32) (n : Nat) (h1 : 1 ≤ n) (h2 : n ≤ 31) (w : World) :
    Calls Try.prog 54 #[.int .u32 (x.toNat : Int), .int .i64 (32 - (n : Int))] w fun e w' => e = .returned (.int .u32 ((Sha.ror x n).toNat : Int)) ∧ w = w' := by
  have h := rotl_up x (32 - n) (by omega) (by omega) w
  rw [show 32 - (32 - n) = n from by omega, show ((32 - n : Nat) : Int) = 32 - (n : Int) from by omega] at h
  exact h
/- the xor of a word's rotations, and of it shifted -/
def rots (x : BitVec 32) (s : Nat) (ps : List Nat) : BitVec 32 := ps.foldl (fun y n => y ^^^ Sha.ror x n) (x >>> s)
theorem rots_snoc (x : BitVec 32) (s : Nat) (ps : List Nat) (n : Nat) : rots x s (ps ++ [n]) = rots x s ps ^^^ Sha.ror x n := by simp [rots]
/-- A function that makes such a word. -/
structure IsRot (w : World) (v : Value) (s : Nat) (ps : List Nat) (bs bp bl : Nat) : Prop where
  val : v = .func (.func 59) #[] #[.pointer (some ⟨bs, 0, none⟩), .pointer (some ⟨bp, 0, none⟩)]
  sh : Row w bs 3 #[intV s]
  pl : Row w bp 100 #[.slice (some ⟨bl, 0, none⟩) ps.length ps.length]
  li : Row w bl 3 (ps.map intV).toArray
theorem IsRot.keep {w w' : World} {v : Value} {s : Nat} {ps : List Nat} {bs bp bl : Nat} (h : IsRot w v s ps bs bp bl) (h1 : w'.heap[bs]? = w.heap[bs]?) (h2 : w'.heap[bp]? = w.heap[bp]?) (h3 : w'.heap[bl]? = w.heap[bl]?) : IsRot w' v s ps bs bp bl :=
  ⟨h.val, h1.trans h.sh, h2.trans h.pl, h3.trans h.li⟩
theorem IsRot.later {w w' : World} {v : Value} {s : Nat} {ps : List Nat} {bs bp bl : Nat} (h : IsRot w v s ps bs bp bl) (hL : Later w w') : IsRot w' v s ps bs bp bl :=
  ⟨h.val, h.sh.later hL, h.pl.later hL, h.li.later hL⟩
set_option maxHeartbeats 400000 in
theorem rots_any (x : BitVec 32) (v : Value) (s : Nat) (ps : List Nat) (bs bp bl : Nat) (w : World) (hs : s ≤ 32) (hp : ∀ n ∈ ps, 1 ≤ n ∧ n ≤ 31) (hl : ps.length ≤ 100) (h : IsRot w v s ps bs bp bl) :
    Calls Try.prog 59 #[.int .u32 (x.toNat : Int), .pointer (some ⟨bs, 0, none⟩), .pointer (some ⟨bp, 0, none⟩)] w fun e w' => e = .returned (.int .u32 ((rots x s ps).toNat : Int)) ∧ w = w' := by
  have hx := x.isLt
  have hc1 : w.cell? ⟨bs, 0, none⟩ = some (.int .i64 (s : Int)) := (h.sh.cell 0).trans rfl
  have hc2 : w.cell? ⟨bp, 0, none⟩ = some (.slice (some ⟨bl, 0, none⟩) ps.length ps.length) := (h.pl.cell 0).trans rfl
  have hli := h.li
  have HP := Lib.hid hp
  have h0 : rots x s [] = x >>> s := rfl
  have H0 := Lib.hid h0
  clear h hp h0
  go_enter Try.func59, Try.ntmps59
  go_wp2
  go_loop [5, 13] (fun y t => ∃ k : Nat, k ≤ ps.length ∧ t = .int .i64 k ∧ y = .int .u32 ((rots x s (ps.take k)).toNat : Int)) (fun _ t => ps.length - (intOf t).toNat)
  case atStart => exact ⟨0, by omega, rfl, by rw [List.take_zero, H0.out, bv_shr]⟩
  case round =>
    obtain ⟨k, hk, rfl, rfl⟩ := hrel
    by_cases hlt : k < ps.length
    · obtain ⟨p, hpk⟩ : ∃ p, ps[k] = p := ⟨_, rfl⟩
      have hc3 : w.cell? ⟨bl, k, none⟩ = some (.int .i64 (p : Int)) := (hli.cell k).trans (by simp [hlt, hpk])
      obtain ⟨hp1, hp2⟩ := HP.out p (by rw [← hpk]; exact List.getElem_mem hlt)
      have hn : rots x s (ps.take (k + 1)) = rots x s (ps.take k) ^^^ Sha.ror x p := by rw [List.take_succ_eq_append_getElem hlt, rots_snoc, hpk]
      have HN := Lib.hid hn
      clear hn hpk
      generalize rots x s (ps.take k) = y at *
      go_wp2_with (first | (go_at_call 54; refine (rotl_sub x p hp1 hp2 _).mono ?_; rintro e w' ⟨rfl, rfl⟩))
      go_round
      case rel => exact ⟨k + 1, by omega, by go_num, by rw [HN.out, bv_xor]⟩
      case measure => simp [intOf]; omega
    · obtain rfl : k = ps.length := by omega
      rw [List.take_length]
      go_wp2
      go_ret
      exact ⟨rfl, rfl⟩
theorem be_snoc (l : List UInt8) (c : UInt8) : Sha.be (l ++ [c]) = (Sha.be l <<< 8) ||| Sha.zx c := by simp [Sha.be]
theorem zxv (c : UInt8) : (c.toNat : Int) = ((Sha.zx c).toNat : Int) := by
  unfold Sha.zx
  rw [BitVec.toNat_setWidth]
  have := c.toNat_lt
  show (c.toNat : Int) = ((c.toNat % 2 ^ 32 : Nat) : Int)
  omega
theorem number_any (A : Option Addr) (n c : Nat) (l : List UInt8) (w : World) (hn : l.length = n) (hm : n ≤ 1099511627776) (hr : Rd w A l) :
    Calls Try.prog 49 #[.slice A n c] w fun e w' => e = .returned (.int .u32 ((Sha.be l).toNat : Int)) ∧ w = w' := by
  subst hn
  have h0 : ((Sha.be []).toNat : Int) = 0 := rfl
  have H0 := Lib.hid h0
  clear h0
  go_enter Try.func49, Try.ntmps49
  go_wp2
  go_loop [2, 7] (fun v t => ∃ k : Nat, k ≤ l.length ∧ t = .int .i64 k ∧ v = .int .u32 ((Sha.be (l.take k)).toNat : Int)) (fun _ t => l.length - (intOf t).toNat)
  case atStart => exact ⟨0, by omega, rfl, by rw [List.take_zero, H0.out]⟩
  case round =>
    obtain ⟨k, hk, rfl, rfl⟩ := hrel
    by_cases hlt : k < l.length
    · obtain ⟨b, o, rfl, hc⟩ := hr.at_ hlt
      have hnext : Sha.be (l.take (k + 1)) = (Sha.be (l.take k) <<< 8) ||| Sha.zx l[k] := by
        rw [List.take_succ_eq_append_getElem hlt, be_snoc]
      have HN := Lib.hid hnext
      clear hnext
      generalize Sha.be (l.take k) = z at *
      replace hc : w.cell? ⟨b, o + k, none⟩ = some (.int .u8 (l[k].toNat : Int)) := hc
      generalize l[k] = q at *
      have hql := q.toNat_lt
      have hzl := z.isLt
      go_wp2
      go_round
      case rel => exact ⟨k + 1, by omega, by go_num, by rw [HN.out, ← bv_or, ← bv_shl, ← zxv]; rfl⟩
      case measure => simp [intOf]; omega
    · obtain rfl : k = l.length := by omega
      rw [List.take_length]
      go_wp2
      go_ret
      exact ⟨rfl, rfl⟩
end Go.Proofs.Ytfconncnccgenaa
