/- Joined texts: Rv3. -/
import Derived.Test.YtloiaaolnfimgaaGreatGo2
set_option linter.unusedVariables false
set_option linter.unusedSimpArgs false
set_option maxRecDepth 100000
set_option maxHeartbeats 32000000
namespace Go.Proofs.YtloiaaolnfimgaaGreat
open Go.RowKit
def bad (most z : Int) : Bool := decide (z < 0) || decide (most < z)
def maxAmt : Int := 1125899906842624
def amts (zs : List Int) : Bool := !zs.any (bad maxAmt)
theorem in1_any (g : Nat) (z most : Int) (w : World) (hg : w.cell? ⟨g, 0, none⟩ = some (.int .i64 most)) :
  Calls Tryz.prog 162 #[.int .i64 z, .pointer (some ⟨g, 0, none⟩)] w fun e w' => e = .returned (.bool (bad most z)) /\ w = w' := by
 by_cases h : z < 0
 ·have e1 : decide (z < 0) = true := decide_eq_true h
  have e2 : bad most z = true := by simp [bad, h]
  rw [e2]
  go_enter Tryz.func162, Tryz.ntmps162
  go_wp2
  go_ret
  exact ⟨rfl, rfl⟩
 ·have e1 : decide (z < 0) = false := decide_eq_false h
  have e2 : bad most z = decide (most < z) := by simp [bad, h]
  rw [e2]
  go_enter Tryz.func162, Tryz.ntmps162
  go_wp2
  go_ret
  exact ⟨rfl, rfl⟩
theorem mtake1_any {α : Type} {p : α -> Bool} {l : List α} {k : Nat} (hk : k < l.length) : (l.take (k + 1)).any p = ((l.take k).any p || p l[k]) := by
 rw [List.take_add_one, List.getElem?_eq_getElem hk, Option.toList_some, List.any_append, List.any_cons, List.any_nil, Bool.or_false]
theorem any_take {α : Type} {p : α -> Bool} {l : List α} {k : Nat} (h : (l.take k).any p = true) : l.any p = true := by
 rw [List.any_eq_true] at h ⊢
 obtain ⟨x, hx, hp⟩ := h
 exact ⟨x, List.mem_of_mem_take hx, hp⟩
theorem idxFn_any (g : Nat) (most : Int) (A : Option Addr) (n c : Nat) (zs : List Int) (w : World) (hn : zs.length = n) (hm : n <= 9223372036854775807) (hr : RdV w A (zs.map numV)) (hg : w.cell? ⟨g, 0, none⟩ = some (.int .i64 most)) :
  Calls Tryz.prog 137 #[.slice A n c, .func (.func 162) #[] #[.pointer (some ⟨g, 0, none⟩)]] w fun e w' => (∃ k : Int, e = .returned (.int .i64 k) /\ decide (0 <= k) = zs.any (bad most)) /\ w = w' := by
 refine Calls.post fun Φ HΦ => ?_
 have HN := Lib.hid hn
 clear hn
 go_enter Tryz.func137, Tryz.ntmps137
 go_wp2_with fail
 go_loopw [8] (fun t wr => ∃ k : Nat, k <= n /\ t = .int .i64 k /\ w = wr /\ (zs.take k).any (bad most) = false) (fun t _ => n - (intOf t).toNat)
 case atStart => exact ⟨0, by omega, rfl, rfl, by simp⟩
 case round =>
  obtain ⟨k, hk, rfl, rfl, hany⟩ := hrel
  by_cases hlt : k < n
  ·have hd : decide ((k : Int) < (n : Int)) = true := decide_eq_true (by omega)
   have hd' : decide (k < n) = true := decide_eq_true hlt
   have hkl : k < zs.length := by rw [HN.out]; exact hlt
   obtain ⟨b, o, rfl, hc⟩ := hr.at_ (k := k) (by simpa using hkl)
   rw [List.getElem_map] at hc
   obtain ⟨z, hz⟩ : ∃ z, zs[k] = z := ⟨_, rfl⟩
   have htk := mtake1_any (p := bad most) hkl
   rw [hany, hz, Bool.false_or] at htk
   rw [hz] at hc
   cases hb : bad most z with
   | true =>
    rw [hb] at htk
    have hyes := any_take htk
    clear hany htk hz
    go_wp2_with (first
     | (go_at_call 162; refine (in1_any g z most w hg).mono ?_; rintro e w' ⟨rfl, rfl⟩; rw [hb])
     | fail)
    exact HΦ.out _ _ ⟨⟨k, rfl, by rw [hyes]; exact decide_eq_true (by omega)⟩, rfl⟩
   | false =>
    rw [hb] at htk
    clear hany hz
    go_wp2_with (first
     | (go_at_call 162; refine (in1_any g z most w hg).mono ?_; rintro e w' ⟨rfl, rfl⟩; rw [hb])
     | fail)
    go_roundw
    case rel => exact ⟨k + 1, by omega, by go_num, (by first | rfl | trivial), htk⟩
    case measure => simp [intOf]; omega
  ·obtain rfl : k = n := by omega
   have hd : decide ((k : Int) < (k : Int)) = false := decide_eq_false (by omega)
   have hd' : decide (k < k) = false := decide_eq_false (by omega)
   rw [List.take_of_length_le (by rw [HN.out]; exact Nat.le_refl _)] at hany
   go_wp2_with fail
   exact HΦ.out _ _ ⟨⟨-1, rfl, by rw [hany]; rfl⟩, rfl⟩
theorem mcontainsFn_any (g : Nat) (most : Int) (A : Option Addr) (n c : Nat) (zs : List Int) (w : World) (hn : zs.length = n) (hm : n <= 9223372036854775807) (hr : RdV w A (zs.map numV)) (hg : w.cell? ⟨g, 0, none⟩ = some (.int .i64 most)) :
  Calls Tryz.prog 104 #[.slice A n c, .func (.func 162) #[] #[.pointer (some ⟨g, 0, none⟩)]] w fun e w' => e = .returned (.bool (zs.any (bad most))) /\ w = w' := by
 have hi := idxFn_any g most A n c zs w hn hm hr hg
 go_enter Tryz.func104, Tryz.ntmps104
 go_wp2_with (first
  | (go_at_call 137; refine hi.mono ?_; clear hi; rintro e w' ⟨⟨k, rfl, hk⟩, rfl⟩)
  | fail)
 go_ret
 exact ⟨by rw [<- hk]; rfl, rfl⟩
theorem in_any (most : Int) (A : Option Addr) (n c : Nat) (zs : List Int) (w : World) (hn : zs.length = n) (hm : n <= 9223372036854775807) (hr : RdV w A (zs.map numV)) :
  Calls Tryz.prog 132 #[.int .i64 most, .slice A n c] w fun e w' => e = .returned (.bool (!zs.any (bad most))) /\ Below w.heap.size w w' := by
 have hL := (Later.refl w).alloc (.cells #[.int .i64 most] 2)
 have hc := mcontainsFn_any w.heap.size most A n c zs _ hn hm (hr.later hL) (((Row.new w 2 #[.int .i64 most]).cell 0).trans rfl)
 clear hr hn
 go_enter Tryz.func132, Tryz.ntmps132
 go_wp2_with (first
  | (go_at_call 104; refine hc.mono ?_; clear hc; rintro e w' ⟨rfl, rfl⟩)
  | fail)
 go_ret
 exact ⟨rfl, hL⟩
theorem check_any (A : Option Addr) (n c : Nat) (zs : List Int) (w : World) (hn : zs.length = n) (hm : n <= 9223372036854775807) (hr : RdV w A (zs.map numV)) :
  Calls Tryz.prog 96 #[.slice A n c] w fun e w' => e = .returned (.int .i64 (if amts zs then 0 else 2)) /\ Below w.heap.size w w' := by
 have hi := in_any maxAmt A n c zs w hn hm hr
 unfold maxAmt at hi
 unfold amts maxAmt
 clear hr hn
 cases hb : zs.any (bad 1125899906842624) with
 | true =>
  rw [hb] at hi
  go_enter Tryz.func96, Tryz.ntmps96
  go_wp2_with (first
   | (go_at_call 132; refine hi.mono ?_; clear hi; rintro e w' ⟨rfl, hL⟩)
   | fail)
  go_ret
  exact ⟨rfl, hL⟩
 | false =>
  rw [hb] at hi
  go_enter Tryz.func96, Tryz.ntmps96
  go_wp2_with (first
   | (go_at_call 132; refine hi.mono ?_; clear hi; rintro e w' ⟨rfl, hL⟩)
   | fail)
  go_ret
  exact ⟨rfl, hL⟩
theorem right5_any (z : Int) (w : World) : Calls Tryz.prog 50 #[.int .i64 z] w fun e w' => e = .returned (.bool (!bad maxAmt z)) /\ w = w' := by
 unfold maxAmt
 by_cases h : 0 <= z
 ·have e1 : decide (0 <= z) = true := decide_eq_true h
  have e2 : (!bad 1125899906842624 z) = decide (z <= 1125899906842624) := by
   by_cases h2 : z <= 1125899906842624
   ·have : ¬ z < 0 := by omega
    have : ¬ 1125899906842624 < z := by omega
    simp [bad, *]
   ·have : 1125899906842624 < z := by omega
    simp [bad, *]
  rw [e2]
  go_enter Tryz.func50, Tryz.ntmps50
  go_wp2
  go_ret
  exact ⟨rfl, rfl⟩
 ·have e1 : decide (0 <= z) = false := decide_eq_false h
  have e2 : (!bad 1125899906842624 z) = false := by
   have : z < 0 := by omega
   simp [bad, this]
  rw [e2]
  go_enter Tryz.func50, Tryz.ntmps50
  go_wp2
  go_ret
  exact ⟨rfl, rfl⟩
theorem infoZ : (Tryz.prog.info? 2).map (fun i => (i.zero, i.size, i.bytes)) = some (some (.int .i64 0), 1, 8) := by kernel_rfl
theorem build1Z (x : Int) (W : World) : (Instr.buildSlice 101 1 #[(0, .int .i64 x)]).run Tryz.prog W = .ok (.slice (some ⟨W.heap.size, 0, none⟩) 1 1) (W.alloc (.cells #[.int .i64 x] 2)) := by kernel_rfl
theorem build2Z (x y : Int) (W : World) : (Instr.buildSlice 101 2 #[(0, .int .i64 x), (1, .int .i64 y)]).run Tryz.prog W = .ok (.slice (some ⟨W.heap.size, 0, none⟩) 2 2) (W.alloc (.cells #[.int .i64 x, .int .i64 y] 2)) := by kernel_rfl
theorem rd1Z (x : Int) (W : World) : RdV (W.alloc (.cells #[.int .i64 x] 2)) (some ⟨W.heap.size, 0, none⟩) ([x].map numV) := RdV.row (Row.new W 2 _)
theorem rd2Z (x y : Int) (W : World) : RdV (W.alloc (.cells #[.int .i64 x, .int .i64 y] 2)) (some ⟨W.heap.size, 0, none⟩) ([x, y].map numV) := RdV.row (Row.new W 2 _)
theorem amts_mem {zs : List Int} (h : amts zs = true) : ∀ z ∈ zs, 0 <= z /\ z <= maxAmt := fun z hz => by
 unfold amts at h
 simp only [Bool.not_eq_true'] at h
 rw [List.any_eq_false] at h
 have := h z hz
 unfold bad at this
 simp at this
 omega
theorem take_sum {zs : List Int} {k : Nat} (hk : k < zs.length) : (zs.take (k + 1)).sum = (zs.take k).sum + zs[k] := by
 rw [List.take_add_one, List.getElem?_eq_getElem hk, Option.toList_some, List.sum_append, List.sum_cons, List.sum_nil, Int.add_zero]
theorem sum_nn : ∀ {zs : List Int}, (∀ z ∈ zs, 0 <= z) -> 0 <= zs.sum
 | [], _ => by simp
 | z :: zs, h => by
  have h1 := h z (by simp)
  have h2 := sum_nn (zs := zs) fun y hy => h y (by simp [hy])
  rw [List.sum_cons]; omega
theorem take_sum_le {zs : List Int} (h : ∀ z ∈ zs, 0 <= z) (k : Nat) : 0 <= (zs.take k).sum /\ (zs.take k).sum <= zs.sum := by
 have h1 : 0 <= (zs.take k).sum := sum_nn fun z hz => h z (List.mem_of_mem_take hz)
 have h2 : 0 <= (zs.drop k).sum := sum_nn fun z hz => h z (List.mem_of_mem_drop hz)
 have h3 : (zs.take k ++ zs.drop k).sum = zs.sum := by rw [List.take_append_drop]
 rw [List.sum_append] at h3
 omega
def addS (zs : List Int) : Int × Int := if amts zs then (if maxAmt < zs.sum then (0, 150) else (zs.sum, 0)) else (0, 2)
theorem amts_false {zs : List Int} (h : amts zs = false) : addS zs = (0, 2) := by simp [addS, h]
theorem amts_over {zs : List Int} (h : amts zs = true) (h2 : maxAmt < zs.sum) : addS zs = (0, 150) := by simp [addS, h, h2]
theorem amts_sum {zs : List Int} (h : amts zs = true) (h2 : ¬ maxAmt < zs.sum) : addS zs = (zs.sum, 0) := by simp [addS, h, h2]
theorem add_any (A : Option Addr) (n c : Nat) (zs : List Int) (w : World) (hn : zs.length = n) (hm : n <= 9223372036854775807) (hr : RdV w A (zs.map numV)) :
  Calls Tryz.prog 95 #[.slice A n c] w fun e w' => e = .returned (.tuple #[.int .i64 (addS zs).1, .int .i64 (addS zs).2]) /\ Below w.heap.size w w' := by
 refine Calls.post fun Φ HΦ => ?_
 have hck := check_any A n c zs w hn hm hr
 have HN := Lib.hid hn
 clear hn
 have hall := fun h : amts zs = true => amts_mem h
 go_enter Tryz.func95, Tryz.ntmps95
 go_wp2_with fail
 refine wp_scope_jumps 0 (fun a' w' => Below w.heap.size w w' /\ ∃ (e : Int) (u0 u1 u2 u4 u5 u6 u7 u8 u9 u10 u11 u12 u13 u14 u15 u16 u17 u18 u19 u20 u21 u22 u23 : Value), a' = { tmps := #[u0, u1, u2, .int .i64 e, u4, u5, u6, u7, u8, u9, u10, u11, u12, u13, u14, u15, u16, u17, u18, u19, u20, u21, u22, u23], defers := [] } /\ e = (addS zs).2 /\ (addS zs).1 = 0) (fun _ _ => 0) rfl ?_ ?_
 ·cases ha : amts zs with
  | false =>
   rw [ha] at hck
   have hS := amts_false ha
   go_wp2_with (first
    | (go_at_call 96; refine hck.mono ?_; clear hck; rintro e w1 ⟨rfl, hL⟩)
    | fail)
   go_step3
   exact ⟨rfl, hL, _, _, _, _, _, _, _, _, _, _, _, _, _, _, _, _, _, _, _, _, _, _, _, _, rfl, by rw [hS]; exact ⟨rfl, rfl⟩⟩
  | true =>
   rw [ha] at hck
   have hall := hall ha
   have hsl := fun k => take_sum_le (zs := zs) (fun z hz => (hall z hz).1) k
   have HA := Lib.hid ha
   clear ha
   go_wp2_with (first
    | (go_at_call 96; refine hck.mono ?_; clear hck; rintro e w1 ⟨rfl, hL⟩)
    | fail)
   go_loopw [2, 12] (fun t u wr => ∃ k : Nat, k <= n /\ t = .int .i64 (zs.take k).sum /\ u = .int .i64 k /\ w1 = wr /\ (zs.take k).sum <= 1125899906842624) (fun _ u _ => n - (intOf u).toNat)
   case atStart => exact ⟨0, by omega, by simp, rfl, rfl, by simp⟩
   case round =>
    obtain ⟨k, hk, rfl, rfl, rfl, hle⟩ := hrel
    by_cases hlt : k < n
    ·have hd : decide ((k : Int) < (n : Int)) = true := decide_eq_true (by omega)
     have hd' : decide (k < n) = true := decide_eq_true hlt
     have hkl : k < zs.length := by rw [HN.out]; exact hlt
     obtain ⟨b, o, rfl, hc⟩ := (hr.later hL).at_ (k := k) (by simpa using hkl)
     rw [List.getElem_map] at hc
     have hz := hall zs[k] (List.getElem_mem hkl)
     have hts := take_sum hkl
     have hs1 := hsl (k + 1)
     have hs0 := hsl k
     obtain ⟨z, hze⟩ : ∃ z, zs[k] = z := ⟨_, rfl⟩
     obtain ⟨S, hSe⟩ : ∃ S, (zs.take k).sum = S := ⟨_, rfl⟩
     obtain ⟨T, hTe⟩ : ∃ T, zs.sum = T := ⟨_, rfl⟩
     rw [hze] at hc hz hts
     rw [hSe] at hts hs0 hle ⊢
     unfold maxAmt at hz
     by_cases hov : 1125899906842624 < S + z
     ·have e1 : decide (1125899906842624 < S + z) = true := decide_eq_true hov
      have hA := amts_over HA.out (by unfold maxAmt; omega)
      have hwr := IntWalk.i64_in (S + z) (by omega)
      have HTS := Lib.hid hts
      have HSE := Lib.hid hSe
      clear hts hSe hze hTe hs1 hs0 hsl hall
      go_wp2_with fail
      go_step3
      exact ⟨rfl, hL, _, _, _, _, _, _, _, _, _, _, _, _, _, _, _, _, _, _, _, _, _, _, _, _, rfl, by rw [hA]; exact ⟨rfl, rfl⟩⟩
     ·have e1 : decide (1125899906842624 < S + z) = false := decide_eq_false hov
      have hwr := IntWalk.i64_in (S + z) (by omega)
      have HTS := Lib.hid hts
      have HSE := Lib.hid hSe
      clear hts hSe hze hTe hs1 hs0 hsl hall
      go_wp2_with fail
      go_roundw
      case rel => exact ⟨k + 1, by omega, by rw [HTS.out], by go_num, (by first | rfl | trivial), by rw [HTS.out]; omega⟩
      case measure => simp [intOf]; omega
    ·obtain rfl : k = n := by omega
     have hd : decide ((k : Int) < (k : Int)) = false := decide_eq_false (by omega)
     have hd' : decide (k < k) = false := decide_eq_false (by omega)
     rw [List.take_of_length_le (by rw [HN.out]; exact Nat.le_refl _)] at hle ⊢
     have hA := amts_sum HA.out (by unfold maxAmt; omega)
     rw [hA] at HΦ
     clear hsl hall
     go_wp2_with fail
     exact HΦ.out _ _ ⟨rfl, hL⟩
 ·rintro a' w' ⟨hLj, e, u0, u1, u2, u4, u5, u6, u7, u8, u9, u10, u11, u12, u13, u14, u15, u16, u17, u18, u19, u20, u21, u22, u23, rfl, he⟩
  go_wp2_with fail
  obtain ⟨he1, he2⟩ := he
  exact HΦ.out _ _ ⟨by rw [he1, he2]; rfl, hLj⟩
theorem and_xor : ∀ (n x y : Nat), x <= n -> 2 * (x &&& y) + (x ^^^ y) = x + y
 | 0, x, y, h => by
  obtain rfl : x = 0 := by omega
  simp
 | n + 1, x, y, h => by
  rcases Nat.eq_zero_or_pos x with rfl | hp
  ·simp
  ·have ih := and_xor n (x / 2) (y / 2) (by omega)
   have a1 : (x &&& y) / 2 = x / 2 &&& y / 2 := by simpa using Nat.and_div_two_pow (a := x) (b := y) (n := 1)
   have a2 : (x ^^^ y) / 2 = x / 2 ^^^ y / 2 := by simpa using Nat.xor_div_two_pow (a := x) (b := y) (n := 1)
   have b1 : (x &&& y) % 2 = x % 2 &&& y % 2 := by simpa using Nat.and_mod_two_pow (a := x) (b := y) (n := 1)
   have b2 : (x ^^^ y) % 2 = x % 2 ^^^ y % 2 := by simpa using Nat.xor_mod_two_pow (a := x) (b := y) (n := 1)
   rw [<- a1, <- a2] at ih
   clear a1 a2
   generalize x &&& y = p at *
   generalize x ^^^ y = q at *
   have c00 : (0 : Nat) &&& 0 = 0 := rfl
   have c01 : (0 : Nat) &&& 1 = 0 := rfl
   have c10 : (1 : Nat) &&& 0 = 0 := rfl
   have c11 : (1 : Nat) &&& 1 = 1 := rfl
   have d00 : (0 : Nat) ^^^ 0 = 0 := rfl
   have d01 : (0 : Nat) ^^^ 1 = 1 := rfl
   have d10 : (1 : Nat) ^^^ 0 = 1 := rfl
   have d11 : (1 : Nat) ^^^ 1 = 0 := rfl
   rcases Nat.mod_two_eq_zero_or_one x with hx | hx <;> rcases Nat.mod_two_eq_zero_or_one y with hy | hy
   ·rw [hx, hy, c00] at b1; rw [hx, hy, d00] at b2; omega
   ·rw [hx, hy, c01] at b1; rw [hx, hy, d01] at b2; omega
   ·rw [hx, hy, c10] at b1; rw [hx, hy, d10] at b2; omega
   ·rw [hx, hy, c11] at b1; rw [hx, hy, d11] at b2; omega
theorem i64_and_nat (a b : Nat) (ha : a < 9223372036854775808) (hb : b < 9223372036854775808) : bits .and .i64 (a : Int) (b : Int) = ((a &&& b : Nat) : Int) := by
 have hx : a &&& b < 2 ^ 63 := Nat.and_lt_two_pow _ (by omega)
 show IntKind.i64.wrap ((BitVec.ofInt 64 (a : Int) &&& BitVec.ofInt 64 (b : Int)).toNat : Int) = _
 rw [BitVec.toNat_and, ofInt_u64 a (by omega), ofInt_u64 b (by omega)]
 exact IntWalk.i64_in _ (by omega)
theorem i64_xor_nat (a b : Nat) (ha : a < 9223372036854775808) (hb : b < 9223372036854775808) : bits .xor .i64 (a : Int) (b : Int) = ((a ^^^ b : Nat) : Int) := by
 have hx : a ^^^ b < 2 ^ 63 := Nat.xor_lt_two_pow (by omega) (by omega)
 show IntKind.i64.wrap ((BitVec.ofInt 64 (a : Int) ^^^ BitVec.ofInt 64 (b : Int)).toNat : Int) = _
 rw [BitVec.toNat_xor, ofInt_u64 a (by omega), ofInt_u64 b (by omega)]
 exact IntWalk.i64_in _ (by omega)
theorem mid_bits {a b : Int} (h : amts [a, b] = true) : bits .and .i64 a b + bits .xor .i64 a b / 2 = (a + b) / 2 /\ 0 <= bits .and .i64 a b /\ 0 <= bits .xor .i64 a b /\ bits .xor .i64 a b < 9223372036854775808 := by
 have ha := amts_mem h a (by simp)
 have hb := amts_mem h b (by simp)
 unfold maxAmt at ha hb
 obtain ⟨x, rfl⟩ := Int.eq_ofNat_of_zero_le ha.1
 obtain ⟨y, rfl⟩ := Int.eq_ofNat_of_zero_le hb.1
 have h1 := i64_and_nat x y (by omega) (by omega)
 have h2 := i64_xor_nat x y (by omega) (by omega)
 have h3 := and_xor x x y (Nat.le_refl _)
 have h4 : x ^^^ y < 2 ^ 63 := Nat.xor_lt_two_pow (by omega) (by omega)
 show bits .and .i64 (x : Int) (y : Int) + bits .xor .i64 (x : Int) (y : Int) / 2 = ((x : Int) + (y : Int)) / 2 /\ _
 rw [h1, h2]
 omega
theorem len64_million (w : World) : Calls Tryz.prog 191 #[.int .u64 1000000] w fun e w' => e = .returned (.int .i64 20) /\ w = w' := by
 go_enter Tryz.func191, Tryz.ntmps191
 go_wp2
 go_ret
 exact ⟨by kernel_rfl, rfl⟩
theorem lead64_million (w : World) : Calls Tryz.prog 180 #[.int .u64 1000000] w fun e w' => e = .returned (.int .i64 44) /\ w = w' := by
 have hl := len64_million w
 go_enter Tryz.func180, Tryz.ntmps180
 go_wp2_with (first
  | (go_at_call 191; refine hl.mono ?_; clear hl; rintro e w' ⟨rfl, rfl⟩)
  | fail)
 go_ret
 exact ⟨rfl, rfl⟩
theorem div_f1 (hi lo : Nat) (h1 : 0 < hi) (h2 : hi < 64) (h3 : lo < 18446744073709551616) : bits .or .u64 ((hi : Int) * 17592186044416) ((lo : Int) / 1048576) = ((hi * 17592186044416 + lo / 1048576 : Nat) : Int) := by
 have h := u64_or_nat (hi * 17592186044416) (lo / 1048576) (by omega) (by omega)
 rw [nat_join 44 (hi * 17592186044416) (lo / 1048576) (by omega) (by omega)] at h
 rw [<- h]
 congr 1
theorem div_f2 (lo : Nat) (h3 : lo < 18446744073709551616) : IntKind.u64.wrap ((lo : Int) * 17592186044416) = ((lo % 1048576 * 17592186044416 : Nat) : Int) := by
 rw [IntKind.wrap_u64]
 omega
theorem div_f4 (lo : Nat) (h3 : lo < 18446744073709551616) : bits .and .u64 ((lo % 1048576 * 17592186044416 : Nat) : Int) 4294967295 = 0 := by
 have h := u64_and_nat (lo % 1048576 * 17592186044416) 4294967295 (by omega) (by omega)
 rw [show (4294967295 : Int) = ((4294967295 : Nat) : Int) from rfl, h]
 rw [show 4294967295 = 2 ^ 32 - 1 from rfl, Nat.and_two_pow_sub_one_eq_mod]
 omega
theorem div_g3 (U V q1 r1 : Nat) (hV : V < 4294967296) (hU : U = q1 * 4096000000 + r1) (hr : r1 < 4096000000) : IntKind.u64.wrap (IntKind.u64.wrap (IntKind.u64.wrap ((U : Int) * 4294967296) + (V : Int)) - IntKind.u64.wrap ((q1 : Int) * 17592186044416000000)) = ((r1 * 4294967296 + V : Nat) : Int) := by
 have hUZ : (U : Int) = q1 * 4096000000 + r1 := by omega
 have ha := Int.emod_def ((U : Int) * 4294967296) 18446744073709551616
 have hb := Int.emod_def ((q1 : Int) * 17592186044416000000) 18446744073709551616
 have hc := Int.emod_def ((U : Int) * 4294967296 % 18446744073709551616 + V) 18446744073709551616
 rw [IntKind.wrap_u64, IntKind.wrap_u64, IntKind.wrap_u64, IntKind.wrap_u64, hc, ha, hb, hUZ]
 generalize ((q1 * 4096000000 + r1 : Int) * 4294967296) / 18446744073709551616 = a
 generalize ((q1 : Int) * 17592186044416000000) / 18446744073709551616 = b
 generalize ((q1 * 4096000000 + r1 : Int) * 4294967296 - 18446744073709551616 * a + V) / 18446744073709551616 = c
 clear hUZ hU ha hb hc
 have : ((q1 * 4096000000 + r1 : Int) * 4294967296 - 18446744073709551616 * a + V - 18446744073709551616 * c - (q1 * 17592186044416000000 - 18446744073709551616 * b)) = ((r1 * 4294967296 + V : Nat) : Int) + 18446744073709551616 * (b - a - c) := by omega
 rw [this, Int.add_mul_emod_self_left]
 omega
structure Div64F (hi lo U T V q1 r1 X q0 r0 : Nat) : Prop where
 hU : hi * 17592186044416 + lo / 1048576 = U
 hT : lo % 1048576 * 17592186044416 = T
 hV : lo % 1048576 * 4096 = V
 hUq : U = q1 * 4096000000 + r1
 hr1 : r1 < 4096000000
 hX : r1 * 4294967296 + V = X
 hXq : X = q0 * 4096000000 + r0
 hr0 : r0 < 4096000000
 hUb : U < 1125899906842624
 hVb : V < 4294967296
 hq1 : q1 < 4294967296
 hq0 : q0 < 4294967296
theorem div_exists (hi lo : Nat) (h1 : 0 < hi) (h2 : hi < 64) (h3 : lo < 18446744073709551616) : ∃ U T V q1 r1 X q0 r0, Div64F hi lo U T V q1 r1 X q0 r0 := by
 refine ⟨_, _, _, (hi * 17592186044416 + lo / 1048576) / 4096000000, (hi * 17592186044416 + lo / 1048576) % 4096000000, _, ((hi * 17592186044416 + lo / 1048576) % 4096000000 * 4294967296 + lo % 1048576 * 4096) / 4096000000, ((hi * 17592186044416 + lo / 1048576) % 4096000000 * 4294967296 + lo % 1048576 * 4096) % 4096000000, rfl, rfl, rfl, ?_, ?_, rfl, ?_, ?_, ?_, ?_, ?_, ?_⟩ <;> omega
theorem div_q {hi lo U T V q1 r1 X q0 r0 : Nat} (h : Div64F hi lo U T V q1 r1 X q0 r0) : (hi * 18446744073709551616 + lo) / 1000000 = q1 * 4294967296 + q0 := by
 obtain ⟨a, b, c, d, e, f, g, i, j, k, l, m⟩ := h
 have : (hi * 18446744073709551616 + lo) * 4096 = (q1 * 4294967296 + q0) * 4096000000 + r0 := by omega
 omega
theorem div64_any (hi lo : Nat) (w : World) (h1 : 0 < hi) (h2 : hi < 64) (h3 : lo < 18446744073709551616) :
  Calls Tryz.prog 165 #[.int .u64 (hi : Int), .int .u64 (lo : Int), .int .u64 1000000] w fun e w' => (∃ r, e = .returned (.tuple #[.int .u64 (((hi * 18446744073709551616 + lo) / 1000000 : Nat) : Int), r])) /\ w = w' := by
 refine Calls.post fun Φ HΦ => ?_
 obtain ⟨U, T, V, q1, r1, X, q0, r0, hF⟩ := div_exists hi lo h1 h2 h3
 rw [div_q hF] at HΦ
 have e1 : decide ((1000000 : Int) <= (hi : Int)) = false := decide_eq_false (by omega)
 have e2 : decide ((hi : Int) = 0) = false := decide_eq_false (by omega)
 have f0 : bits .and .u64 17592186044416000000 4294967295 = 0 := by kernel_rfl
 have f1 := div_f1 hi lo h1 h2 h3
 have f2 := div_f2 lo h3
 have f4 := div_f4 lo h3
 rw [hF.hU] at f1
 rw [hF.hT] at f2 f4
 have f3 : (T : Int) / 4294967296 = (V : Int) := by have := hF.hT; have := hF.hV; omega
 have g1 : (U : Int) / 4096000000 = (q1 : Int) := by have := hF.hUq; have := hF.hr1; omega
 have g2 : (U : Int) - (q1 : Int) * 4096000000 = (r1 : Int) := by have := hF.hUq; omega
 have g3 := div_g3 U V q1 r1 hF.hVb hF.hUq hF.hr1
 rw [hF.hX] at g3
 have g4 : (X : Int) / 4096000000 = (q0 : Int) := by have := hF.hXq; have := hF.hr0; omega
 have g5 : (X : Int) - (q0 : Int) * 4096000000 = (r0 : Int) := by have := hF.hXq; omega
 have hq1b := hF.hq1
 have hq0b := hF.hq0
 have hr1b := hF.hr1
 have hr0b := hF.hr0
 have hUb := hF.hUb
 have hVb := hF.hVb
 have d1 : decide (4294967296 <= (q1 : Int)) = false := decide_eq_false (by omega)
 have d2 : decide (4294967296 * (r1 : Int) + (V : Int) < 0) = false := decide_eq_false (by omega)
 have d3 : decide (4294967296 <= (q0 : Int)) = false := decide_eq_false (by omega)
 have d4 : decide (4294967296 * (r0 : Int) < 0) = false := decide_eq_false (by omega)
 have hXb : X < 18446744073709551616 := by have := hF.hX; omega
 have HF := Lib.hid hF
 clear hF
 go_enter Tryz.func165, Tryz.ntmps165
 go_wp2_with (first
  | (go_at_call 180; refine (lead64_million w).mono ?_; rintro e w' ⟨rfl, rfl⟩)
  | fail)
 go_loopw [15, 16] (fun t u wr => t = .int .u64 (q1 : Int) /\ u = .int .u64 (r1 : Int) /\ w = wr) (fun _ _ _ => 0)
 case atStart => exact ⟨rfl, rfl, rfl⟩
 case round =>
  obtain ⟨rfl, rfl, rfl⟩ := hrel
  go_wp2_with fail
  go_loopw [18, 16] (fun t u wr => t = .int .u64 (q0 : Int) /\ u = .int .u64 (r0 : Int) /\ w = wr) (fun _ _ _ => 0)
  case atStart => exact ⟨rfl, rfl, rfl⟩
  case round =>
   obtain ⟨rfl, rfl, rfl⟩ := hrel
   go_wp2_with fail
   exact HΦ.out _ _ ⟨⟨_, rfl⟩, rfl⟩
theorem div64_small (lo : Nat) (w : World) (h3 : lo < 18446744073709551616) :
  Calls Tryz.prog 165 #[.int .u64 0, .int .u64 (lo : Int), .int .u64 1000000] w fun e w' => (∃ r, e = .returned (.tuple #[.int .u64 ((lo / 1000000 : Nat) : Int), r])) /\ Later w w' := by
 refine Calls.post fun Φ HΦ => ?_
 go_enter Tryz.func165, Tryz.ntmps165
 go_wp2_with fail
 go_region
 go_wp2
 exact HΦ.out _ _ ⟨⟨_, rfl⟩, (Later.refl w).drew⟩
theorem div64_all (hi lo : Nat) (w : World) (h2 : hi < 64) (h3 : lo < 18446744073709551616) :
  Calls Tryz.prog 165 #[.int .u64 (hi : Int), .int .u64 (lo : Int), .int .u64 1000000] w fun e w' => (∃ r, e = .returned (.tuple #[.int .u64 (((hi * 18446744073709551616 + lo) / 1000000 : Nat) : Int), r])) /\ Later w w' := by
 rcases Nat.eq_zero_or_pos hi with rfl | h1
 ·have := div64_small lo w h3
  rw [Nat.zero_mul, Nat.zero_add]
  exact this
 ·exact (div64_any hi lo w h1 h2 h3).mono fun e w' ⟨he, hw⟩ => ⟨he, hw ▸ Later.refl w⟩
theorem mul_split (n k : Nat) : n * k / 18446744073709551616 * 18446744073709551616 + n * k % 18446744073709551616 = n * k := by omega
theorem of1_any (g n k : Nat) (w : World) (hg : w.cell? ⟨g, 0, none⟩ = some (.int .i64 (n : Int))) (hn : n < 9223372036854775808) (hk : k < 18446744073709551616) (hq : n * k / 18446744073709551616 < 64) (hr : n * k / 1000000 < 9223372036854775808) :
  Calls Tryz.prog 163 #[.int .u64 (k : Int), .int .u64 1000000, .pointer (some ⟨g, 0, none⟩)] w fun e w' => e = .returned (.int .i64 ((n * k / 1000000 : Nat) : Int)) /\ Later w w' := by
 refine Calls.post fun Φ HΦ => ?_
 have hm := Tryz.bits_Mul64 n k (by omega) hk w
 have hd := div64_all (n * k / 18446744073709551616) (n * k % 18446744073709551616) w hq (Nat.mod_lt _ (by decide))
 rw [mul_split n k] at hd
 obtain ⟨r, hr'⟩ : ∃ r, n * k / 1000000 = r := ⟨_, rfl⟩
 obtain ⟨H, hH⟩ : ∃ r, n * k / 18446744073709551616 = r := ⟨_, rfl⟩
 obtain ⟨L, hL⟩ : ∃ r, n * k % 18446744073709551616 = r := ⟨_, rfl⟩
 rw [hr'] at hr hd HΦ
 rw [hH] at hm hd
 rw [hL] at hm hd
 clear hr' hH hL hq
 have c1 : IntKind.u64.wrap (n : Int) = (n : Int) := by rw [IntKind.wrap_u64]; omega
 have c2 : IntKind.i64.wrap (r : Int) = (r : Int) := IntWalk.i64_in _ (by omega)
 go_enter Tryz.func163, Tryz.ntmps163
 go_wp2_with (first
  | (go_at_call 164; refine hm.mono ?_; clear hm; rintro e w1 ⟨rfl, rfl⟩)
  | (go_at_call 165; refine hd.mono ?_; clear hd; rintro e w1 ⟨⟨z, rfl⟩, hL⟩)
  | fail)
 exact HΦ.out _ _ ⟨rfl, hL⟩
theorem of_any (n : Int) (w : World) :
  Calls Tryz.prog 133 #[.int .i64 n] w fun e w' => e = .returned (.func (.func 163) #[] #[.pointer (some ⟨w.heap.size, 0, none⟩)]) /\ w' = w.alloc (.cells #[.int .i64 n] 2) := by
 refine Calls.post fun Φ HΦ => ?_
 go_enter Tryz.func133, Tryz.ntmps133
 go_wp2_with fail
 exact HΦ.out _ _ ⟨rfl, rfl⟩
def okRate (r : Int) : Bool := !bad 1000000 r
def shareS (a r : Int) : Int × Int := if amts [a] && okRate r then (a * r / 1000000, 0) else (0, 2)
theorem rate_one (r : Int) : (![r].any (bad 1000000)) = okRate r := by simp [okRate]
theorem okRate_iff {r : Int} (h : okRate r = true) : 0 <= r /\ r <= 1000000 := by simp [okRate, bad] at h; omega
theorem okAmt_iff {a : Int} (h : amts [a] = true) : 0 <= a /\ a <= 1125899906842624 := by simp [amts, bad, maxAmt] at h; omega
theorem share_nat (a r : Nat) (ha : a <= 1125899906842624) (hr : r <= 1000000) : a * r <= 1125899906842624000000 := Nat.mul_le_mul ha hr
theorem share_any (a r : Int) (w : World) :
  Calls Tryz.prog 94 #[.int .i64 a, .int .i64 r] w fun e w' => e = .returned (.tuple #[.int .i64 (shareS a r).1, .int .i64 (shareS a r).2]) /\ Below w.heap.size w w' := by
 refine Calls.post fun Φ HΦ => ?_
 have hL0 := (Later.refl w).alloc (.cells #[.int .i64 a] 2)
 have hck := check_any (some ⟨w.heap.size, 0, none⟩) 1 1 [a] _ rfl (by omega) (rd1Z a w)
 have hin := fun W => in_any 1000000 (some ⟨World.heap W |>.size, 0, none⟩) 1 1 [r] _ rfl (by omega) (rd1Z r W)
 simp only [rate_one] at hin
 cases ha : amts [a] with
 | false =>
  rw [ha] at hck
  have hS : shareS a r = (0, 2) := by simp [shareS, ha]
  rw [hS] at HΦ
  clear hin
  go_enter Tryz.func94, Tryz.ntmps94
  go_wp2_with (first
   | (refine wpList_buildSl rfl 101 1 _ rfl #[(0, .int .i64 a)] rfl (build1Z a _) ?_)
   | (go_at_call 96; refine hck.mono ?_; clear hck; rintro e w1 ⟨rfl, hL1⟩)
   | fail)
  exact HΦ.out _ _ ⟨rfl, hL0.step hL1⟩
 | true =>
  rw [ha] at hck
  cases hr : okRate r with
  | false =>
   simp only [hr] at hin
   have hS : shareS a r = (0, 2) := by simp [shareS, ha, hr]
   rw [hS] at HΦ
   go_enter Tryz.func94, Tryz.ntmps94
   go_wp2_with (first
    | (refine wpList_buildSl rfl 101 1 _ rfl #[(0, .int .i64 _)] rfl (build1Z _ _) ?_)
    | (go_at_call 96; refine hck.mono ?_; clear hck; rintro e w1 ⟨rfl, hL1⟩)
    | (go_at_call 132; refine (hin _).mono ?_; clear hin; rintro e w2 ⟨rfl, hL2⟩)
    | fail)
   exact HΦ.out _ _ ⟨rfl, ((hL0.step hL1).step ((Later.refl w1).alloc _)).step hL2⟩
  | true =>
   simp only [hr] at hin
   have h1 := okAmt_iff ha
   have h2 := okRate_iff hr
   obtain ⟨n, rfl⟩ := Int.eq_ofNat_of_zero_le h1.1
   obtain ⟨k, rfl⟩ := Int.eq_ofNat_of_zero_le h2.1
   have hn : n <= 1125899906842624 := by omega
   have hk : k <= 1000000 := by omega
   have hnk := share_nat n k hn hk
   have hS : shareS n k = (((n * k / 1000000 : Nat) : Int), 0) := by simp [shareS, ha, hr]
   rw [hS] at HΦ
   have hof := fun W => of1_any (World.heap W |>.size) n k (W.alloc (.cells #[.int .i64 (n : Int)] 2)) (((Row.new W 2 #[.int .i64 (n : Int)]).cell 0).trans rfl) (by omega) (by omega) (by omega) (by omega)
   have c1 : IntKind.u64.wrap (k : Int) = (k : Int) := by rw [IntKind.wrap_u64]; omega
   clear h1 h2 hnk hn hk ha hr hS
   go_enter Tryz.func94, Tryz.ntmps94
   go_wp2_with (first
    | (refine wpList_buildSl rfl 101 1 _ rfl #[(0, .int .i64 _)] rfl (build1Z _ _) ?_)
    | (go_at_call 96; refine hck.mono ?_; clear hck; rintro e w1 ⟨rfl, hL1⟩)
    | (go_at_call 132; refine (hin _).mono ?_; clear hin; rintro e w2 ⟨rfl, hL2⟩)
    | (go_at_call 133; refine (of_any _ _).mono ?_; rintro e w3 ⟨rfl, rfl⟩)
    | (go_at_call 163; refine (hof _).mono ?_; clear hof; rintro e w4 ⟨rfl, hL4⟩)
    | fail)
   exact HΦ.out _ _ ⟨rfl, ((((hL0.step hL1).step ((Later.refl w1).alloc _)).step hL2).step ((Later.refl w2).alloc _)).step hL4⟩
abbrev feeV (b r : Int) : Value := .agg #[.int .i64 b, .int .i64 r]
theorem amt_one (a : Int) : (![a].any (bad 1125899906842624)) = amts [a] := by simp [amts, maxAmt]
theorem rd1Z1 (b : Int) (w : World) (o : Obj) : RdV ((w.alloc o).alloc (.cells #[.int .i64 b] 2)) (some ⟨w.heap.size + 1, 0, none⟩) ([b].map numV) := by
 have := rd1Z b (w.alloc o)
 rwa [World.size_alloc] at this
theorem cell_later {w w' : World} {p : Addr} {v : Value} (h : w.cell? p = some v) (hL : Later w w') : w'.cell? p = some v := (World.cell?_of_block (hL.block _ (block_lt_of_cell h))).trans h
theorem right_any (b r : Int) (w : World) :
  Calls Tryz.prog 93 #[feeV b r] w fun e w' => e = .returned (.bool (amts [b] && okRate r)) /\ Below w.heap.size w w' := by
 refine Calls.post fun Φ HΦ => ?_
 have hL0 := ((Later.refl w).alloc (.cells #[.int .i64 b, .int .i64 r] 162)).alloc (.cells #[.int .i64 b] 2)
 have hib := in_any 1125899906842624 (some ⟨w.heap.size + 1, 0, none⟩) 1 1 [b] _ rfl (by omega) (rd1Z1 b w (.cells #[.int .i64 b, .int .i64 r] 162))
 simp only [amt_one] at hib
 have hin := fun W => in_any 1000000 (some ⟨World.heap W |>.size, 0, none⟩) 1 1 [r] _ rfl (by omega) (rd1Z r W)
 simp only [rate_one] at hin
 have hrow : Row ((w.alloc (.cells #[.int .i64 b, .int .i64 r] 162)).alloc (.cells #[.int .i64 b] 2)) w.heap.size 162 #[.int .i64 b, .int .i64 r] := (Row.new w 162 _).alloc _
 cases ha : amts [b] with
 | false =>
  simp only [ha] at hib
  rw [ha, Bool.false_and] at HΦ
  clear hin hrow
  go_enter Tryz.func93, Tryz.ntmps93
  go_wp2_with (first
   | (refine wpList_buildSl rfl 101 1 _ rfl #[(0, .int .i64 _)] rfl (build1Z _ _) ?_)
   | (go_at_call 132; refine hib.mono ?_; clear hib; rintro e w1 ⟨rfl, hL1⟩)
   | fail)
  exact HΦ.out _ _ ⟨rfl, hL0.step hL1⟩
 | true =>
  simp only [ha] at hib
  rw [ha, Bool.true_and] at HΦ
  go_enter Tryz.func93, Tryz.ntmps93
  go_wp2_with (first
   | (refine wpList_buildSl rfl 101 1 _ rfl #[(0, .int .i64 _)] rfl (build1Z _ _) ?_)
   | (go_at_call 132; refine hib.mono ?_; clear hib; rintro e w1 ⟨rfl, hL1⟩; have hc1 : w1.cell? ⟨w.heap.size, 1, none⟩ = some (.int .i64 r) := cell_later ((hrow.cell 1).trans rfl) hL1; clear hrow)
   | (go_at_call 132; refine (hin _).mono ?_; clear hin; rintro e w2 ⟨rfl, hL2⟩)
   | fail)
  exact HΦ.out _ _ ⟨rfl, ((hL0.step hL1).step ((Later.refl w1).alloc _)).step hL2⟩
def takeS (b r a : Int) : Int × Int :=
 if amts [b] && okRate r then (if (shareS a r).2 = 0 then addS [b, (shareS a r).1] else (0, (shareS a r).2)) else (0, 2)
def sendS (b r a : Int) : Int × Int := if (takeS b r a).2 = 0 then addS [a, (takeS b r a).1] else (0, (takeS b r a).2)
theorem take_fee (b r a : Int) (w : World) :
  Calls Tryz.prog 47 #[feeV b r, .int .i64 a] w fun e w' => e = .returned (.tuple #[.int .i64 (takeS b r a).1, .int .i64 (takeS b r a).2]) /\ Below w.heap.size w w' := by
 refine Calls.post fun Φ HΦ => ?_
 have hL0 := ((Later.refl w).alloc (.cells #[.int .i64 b, .int .i64 r] 42)).alloc (.cells #[.int .i64 b, .int .i64 r] 162)
 cases ha : amts [b] && okRate r with
 | false =>
  have hS : takeS b r a = (0, 2) := by unfold takeS; rw [ha]; rfl
  rw [hS] at HΦ
  have hr := fun W => right_any b r W
  simp only [ha] at hr
  go_enter Tryz.func47, Tryz.ntmps47
  go_wp2_with (first
   | (go_at_call 93; refine (hr _).mono ?_; clear hr; rintro e w1 ⟨rfl, hL1⟩)
   | fail)
  exact HΦ.out _ _ ⟨rfl, hL0.step hL1⟩
 | true =>
  have hr := fun W => right_any b r W
  simp only [ha] at hr
  have hrow : Row ((w.alloc (.cells #[.int .i64 b, .int .i64 r] 42)).alloc (.cells #[.int .i64 b, .int .i64 r] 162)) (w.heap.size + 1) 162 #[.int .i64 b, .int .i64 r] := by
   have := Row.new (w.alloc (.cells #[.int .i64 b, .int .i64 r] 42)) 162 #[.int .i64 b, .int .i64 r]
   rwa [World.size_alloc] at this
  have hsh := fun W => share_any a r W
  have hok : okRate r = true := by rw [Bool.and_eq_true] at ha; exact ha.2
  cases hm : amts [a] with
  | false =>
   have hs : shareS a r = (0, 2) := by simp [shareS, hm]
   have hS : takeS b r a = (0, 2) := by unfold takeS; rw [ha, hs]; rfl
   rw [hS] at HΦ
   simp only [hs] at hsh
   clear hok ha hs hm
   go_enter Tryz.func47, Tryz.ntmps47
   go_wp2_with (first
    | (go_at_call 93; refine (hr _).mono ?_; clear hr; rintro e w1 ⟨rfl, hL1⟩; have hc1 : w1.cell? ⟨w.heap.size + 1, 1, none⟩ = some (.int .i64 r) := cell_later ((hrow.cell 1).trans rfl) hL1; have hL2 := hL0.step hL1; clear hrow hL1)
    | (go_at_call 94; refine (hsh _).mono ?_; clear hsh; rintro e w2 ⟨rfl, hL3⟩)
    | fail)
   exact HΦ.out _ _ ⟨rfl, hL2.step hL3⟩
  | true =>
   obtain ⟨s, hs'⟩ : ∃ s, a * r / 1000000 = s := ⟨_, rfl⟩
   have hs : shareS a r = (s, 0) := by simp [shareS, hm, hok, hs']
   have hS : takeS b r a = addS [b, s] := by unfold takeS; rw [ha, hs]; rfl
   rw [hS] at HΦ
   simp only [hs] at hsh
   have hadd := fun W => add_any (some ⟨World.heap W |>.size, 0, none⟩) 2 2 [b, s] _ rfl (by omega) (rd2Z b s W)
   obtain ⟨q, hq⟩ : ∃ q, addS [b, s] = q := ⟨_, rfl⟩
   obtain ⟨q1, q2⟩ := q
   simp only [hq] at hadd
   rw [hq] at HΦ
   clear hok ha hs hm hq hs'
   go_enter Tryz.func47, Tryz.ntmps47
   go_wp2_with (first
    | (refine wpList_buildSl rfl 101 2 _ rfl #[(0, .int .i64 _), (1, .int .i64 _)] rfl (build2Z _ _ _) ?_)
    | (go_at_call 93; refine (hr _).mono ?_; clear hr; rintro e w1 ⟨rfl, hL1⟩; have hc1 : w1.cell? ⟨w.heap.size + 1, 1, none⟩ = some (.int .i64 r) := cell_later ((hrow.cell 1).trans rfl) hL1; have hc0 : w1.cell? ⟨w.heap.size + 1, 0, none⟩ = some (.int .i64 b) := cell_later ((hrow.cell 0).trans rfl) hL1; have hL2 := hL0.step hL1; clear hrow hL1)
    | (go_at_call 94; refine (hsh _).mono ?_; clear hsh; rintro e w2 ⟨rfl, hL3⟩; have hd0 : w2.cell? ⟨w.heap.size + 1, 0, none⟩ = some (.int .i64 b) := cell_later hc0 hL3; clear hc0)
    | (go_at_call 95; refine (hadd _).mono ?_; clear hadd; rintro e w3 ⟨rfl, hL4⟩)
    | fail)
   exact HΦ.out _ _ ⟨rfl, ((hL2.step hL3).step ((Later.refl w2).alloc _)).step hL4⟩
theorem send_fee (b r a : Int) (w : World) :
  Calls Tryz.prog 99 #[feeV b r, .int .i64 a] w fun e w' => e = .returned (.tuple #[.int .i64 (sendS b r a).1, .int .i64 (sendS b r a).2]) /\ Below w.heap.size w w' := by
 refine Calls.post fun Φ HΦ => ?_
 have hL0 := (Later.refl w).alloc (.cells #[.int .i64 b, .int .i64 r] 42)
 have htk := fun W => take_fee b r a W
 obtain ⟨t, ht⟩ : ∃ t, takeS b r a = t := ⟨_, rfl⟩
 obtain ⟨t1, t2⟩ := t
 simp only [ht] at htk
 by_cases h0 : t2 = 0
 ·subst h0
  have hS : sendS b r a = addS [a, t1] := by unfold sendS; rw [ht]; rfl
  rw [hS] at HΦ
  have hadd := fun W => add_any (some ⟨World.heap W |>.size, 0, none⟩) 2 2 [a, t1] _ rfl (by omega) (rd2Z a t1 W)
  obtain ⟨q, hq⟩ : ∃ q, addS [a, t1] = q := ⟨_, rfl⟩
  obtain ⟨q1, q2⟩ := q
  simp only [hq] at hadd
  rw [hq] at HΦ
  clear ht hS hq
  go_enter Tryz.func99, Tryz.ntmps99
  go_wp2_with (first
   | (refine wpList_buildSl rfl 101 2 _ rfl #[(0, .int .i64 _), (1, .int .i64 _)] rfl (build2Z _ _ _) ?_)
   | (go_at_call 47; refine (htk _).mono ?_; clear htk; rintro e w1 ⟨rfl, hL1⟩)
   | (go_at_call 95; refine (hadd _).mono ?_; clear hadd; rintro e w3 ⟨rfl, hL4⟩)
   | fail)
  exact HΦ.out _ _ ⟨rfl, ((hL0.step hL1).step ((Later.refl w1).alloc _)).step hL4⟩
 ·have hS : sendS b r a = (0, t2) := by unfold sendS; rw [ht, if_neg h0]
  rw [hS] at HΦ
  have e1 : (t2 != 0) = true := by simpa using h0
  clear ht hS
  go_enter Tryz.func99, Tryz.ntmps99
  go_wp2_with (first
   | (go_at_call 47; refine (htk _).mono ?_; clear htk; rintro e w1 ⟨rfl, hL1⟩)
   | fail)
  exact HΦ.out _ _ ⟨rfl, hL0.step hL1⟩
abbrev Fee1 := Int × Int
def feesC : List Fee1 -> List Value
 | [] => []
 | f :: fs => numV f.1 :: numV f.2 :: feesC fs
theorem feesC_len : ∀ fs : List Fee1, (feesC fs).length = fs.length * 2
 | [] => rfl
 | f :: fs => by
  have := feesC_len fs
  simp only [feesC, List.length_cons, this]
  omega
theorem feesC_at : ∀ (fs : List Fee1) (k : Nat) (h : k < fs.length), (feesC fs)[k * 2]? = some (numV fs[k].1) /\ (feesC fs)[k * 2 + 1]? = some (numV fs[k].2)
 | f :: fs, 0, _ => ⟨rfl, rfl⟩
 | f :: fs, k + 1, h => by
  have ih := feesC_at fs k (by simpa using h)
  have e1 : (k + 1) * 2 = k * 2 + 1 + 1 := by omega
  have e2 : (k + 1) * 2 + 1 = k * 2 + 1 + 1 + 1 := by omega
  rw [e2, e1]
  exact ih
theorem fees_at {w : World} {A : Option Addr} {fs : List Fee1} (h : RdV w A (feesC fs)) {k : Nat} (hk : k < fs.length) : ∃ b o, A = some ⟨b, o, none⟩ /\ w.cell? ⟨b, o + k * 2, none⟩ = some (numV fs[k].1) /\ w.cell? ⟨b, o + k * 2 + 1, none⟩ = some (numV fs[k].2) := by
 have hl := feesC_len fs
 obtain ⟨b, o, e, hc⟩ := h (by intro e; rw [e] at hl; simp at hl; omega)
 obtain ⟨h1, h2⟩ := feesC_at fs k hk
 refine ⟨b, o, e, ?_, ?_⟩
 ·rw [hc (k * 2) (by omega), <- List.getElem?_eq_getElem, h1]
 ·rw [Nat.add_assoc, hc (k * 2 + 1) (by omega), <- List.getElem?_eq_getElem, h2]
theorem infoFee : (Tryz.prog.info? 42).map (·.size) = some 2 := by kernel_rfl
theorem run_load_fee {w : World} {b o : Nat} {x y : Int} (h0 : w.cell? ⟨b, o, none⟩ = some (numV x)) (h1 : w.cell? ⟨b, o + 1, none⟩ = some (numV y)) : (Instr.loadAt 42 (.pointer (some ⟨b, o, none⟩))).run Tryz.prog w = .ok (feeV x y) w :=
 run_loadAt_mid (P := Tryz.prog) w b o 42 [numV x, numV y] _ (fun j v e => by
  match j, e with
  | 0, e => cases e; exact h0
  | 1, e => cases e; exact h1) Tryz.underlying42 rfl infoFee
def rightF (f : Fee1) : Bool := amts [f.1] && okRate f.2
theorem route1_any (f : Fee1) (w : World) :
  Calls Tryz.prog 98 #[feeV f.1 f.2] w fun e w' => e = .returned (.bool (!rightF f)) /\ Later w w' := by
 refine Calls.post fun Φ HΦ => ?_
 have hL0 := (Later.refl w).alloc (.cells #[.int .i64 f.1, .int .i64 f.2] 42)
 have hr := fun W => right_any f.1 f.2 W
 obtain ⟨b, r⟩ := f
 unfold rightF at HΦ
 cases hb : amts [b] && okRate r with
 | false =>
  simp only [hb] at hr HΦ
  go_enter Tryz.func98, Tryz.ntmps98
  go_wp2_with (first
   | (go_at_call 93; refine (hr _).mono ?_; clear hr; rintro e w1 ⟨rfl, hL1⟩)
   | fail)
  exact HΦ.out _ _ ⟨rfl, hL0.step hL1⟩
 | true =>
  simp only [hb] at hr HΦ
  go_enter Tryz.func98, Tryz.ntmps98
  go_wp2_with (first
   | (go_at_call 93; refine (hr _).mono ?_; clear hr; rintro e w1 ⟨rfl, hL1⟩)
   | fail)
  exact HΦ.out _ _ ⟨rfl, hL0.step hL1⟩
theorem idxFee_any (A : Option Addr) (n c : Nat) (fs : List Fee1) (w : World) (hn : fs.length = n) (hm : n <= 9223372036854775807) (hr : RdV w A (feesC fs)) :
  Calls Tryz.prog 134 #[.slice A n c, .func (.func 98) #[] #[]] w fun e w' => (∃ k : Int, e = .returned (.int .i64 k) /\ decide (0 <= k) = fs.any (fun f => !rightF f)) /\ Later w w' := by
 refine Calls.post fun Φ HΦ => ?_
 have HN := Lib.hid hn
 clear hn
 go_enter Tryz.func134, Tryz.ntmps134
 go_wp2_with fail
 go_loopw [8] (fun t wr => ∃ k : Nat, k <= n /\ t = .int .i64 k /\ Later w wr /\ (fs.take k).any (fun f => !rightF f) = false) (fun t _ => n - (intOf t).toNat)
 case atStart => exact ⟨0, by omega, rfl, Later.refl _, by simp⟩
 case round =>
  obtain ⟨k, hk, rfl, hL, hany⟩ := hrel
  by_cases hlt : k < n
  ·have hd : decide ((k : Int) < (n : Int)) = true := decide_eq_true (by omega)
   have hd' : decide (k < n) = true := decide_eq_true hlt
   have hkl : k < fs.length := by rw [HN.out]; exact hlt
   obtain ⟨b, o, rfl, hc0, hc1⟩ := fees_at (hr.later hL) hkl
   obtain ⟨f, hf⟩ : ∃ f, fs[k] = f := ⟨_, rfl⟩
   have htk := mtake1_any (p := fun f => !rightF f) hkl
   rw [hany, hf, Bool.false_or] at htk
   rw [hf] at hc0 hc1
   have hld := run_load_fee hc0 hc1
   have hcl := fun W => route1_any f W
   cases hb : rightF f with
   | false =>
    simp only [hb] at htk hcl
    have hyes := any_take htk
    clear hany htk hf
    go_wp2_with (first
     | (go_at_call 98; refine (hcl _).mono ?_; rintro e w' ⟨rfl, hL1⟩)
     | fail)
    exact HΦ.out _ _ ⟨⟨k, rfl, by rw [hyes]; exact decide_eq_true (by omega)⟩, hL.step hL1⟩
   | true =>
    simp only [hb] at htk hcl
    clear hany hf
    go_wp2_with (first
     | (go_at_call 98; refine (hcl _).mono ?_; rintro e w' ⟨rfl, hL1⟩)
     | fail)
    go_roundw
    case rel => exact ⟨k + 1, by omega, by go_num, hL.step hL1, htk⟩
    case measure => simp [intOf]; omega
  ·obtain rfl : k = n := by omega
   have hd : decide ((k : Int) < (k : Int)) = false := decide_eq_false (by omega)
   have hd' : decide (k < k) = false := decide_eq_false (by omega)
   rw [List.take_of_length_le (by rw [HN.out]; exact Nat.le_refl _)] at hany
   go_wp2_with fail
   exact HΦ.out _ _ ⟨⟨-1, rfl, by rw [hany]; rfl⟩, hL⟩
theorem containsFee_any (A : Option Addr) (n c : Nat) (fs : List Fee1) (w : World) (hn : fs.length = n) (hm : n <= 9223372036854775807) (hr : RdV w A (feesC fs)) :
  Calls Tryz.prog 97 #[.slice A n c, .func (.func 98) #[] #[]] w fun e w' => e = .returned (.bool (fs.any (fun f => !rightF f))) /\ Later w w' := by
 have hi := idxFee_any A n c fs w hn hm hr
 go_enter Tryz.func97, Tryz.ntmps97
 go_wp2_with (first
  | (go_at_call 134; refine hi.mono ?_; clear hi; rintro e w' ⟨⟨k, rfl, hk⟩, hL⟩)
  | fail)
 go_ret
 exact ⟨by rw [<- hk]; rfl, hL⟩
def routeFrom (a : Int) : List Fee1 -> List Int × Int
 | [] => ([a], 0)
 | f :: fs => if (routeFrom a fs).2 = 0 then (if (sendS f.1 f.2 ((routeFrom a fs).1.headD 0)).2 = 0 then ((sendS f.1 f.2 ((routeFrom a fs).1.headD 0)).1 :: (routeFrom a fs).1, 0) else ([], (sendS f.1 f.2 ((routeFrom a fs).1.headD 0)).2)) else ([], (routeFrom a fs).2)
def routeS (a : Int) (fs : List Fee1) : List Int × Int := if amts [a] && !fs.any (fun f => !rightF f) then routeFrom a fs else ([], 2)
theorem routeFrom_err {a e : Int} (he : e ≠ 0) : ∀ (fs : List Fee1) (j : Nat), j <= fs.length -> routeFrom a (fs.drop j) = ([], e) -> routeFrom a fs = ([], e)
 | _, 0, _, h => h
 | [], j + 1, h, _ => absurd h (by simp)
 | f :: fs, j + 1, h, hr => by
  have := routeFrom_err he fs j (by simpa using h) hr
  simp [routeFrom, this, he]
theorem routeFrom_cons {a : Int} {fs : List Fee1} {i : Nat} (hi : i < fs.length) {x y : Int} {l : List Int} (h : routeFrom a (fs.drop (i + 1)) = (x :: l, 0)) (hs : sendS fs[i].1 fs[i].2 x = (y, 0)) : routeFrom a (fs.drop i) = (y :: x :: l, 0) := by
 rw [List.drop_eq_getElem_cons hi, routeFrom]
 simp [h, hs]
theorem routeFrom_bad {a : Int} {fs : List Fee1} {i : Nat} (hi : i < fs.length) {x z e : Int} {l : List Int} (h : routeFrom a (fs.drop (i + 1)) = (x :: l, 0)) (hs : sendS fs[i].1 fs[i].2 x = (z, e)) (he : e ≠ 0) : routeFrom a fs = ([], e) := by
 refine routeFrom_err he fs i (by omega) ?_
 rw [List.drop_eq_getElem_cons hi, routeFrom]
 simp [h, hs, he]
theorem run_make_ints (n : Nat) (hn : n <= 1000000) (w : World) :
  (Instr.makeSlice 101 (.int .i64 (n : Int)) (.int .i64 (n : Int))).run Tryz.prog w = .ok (.slice (some ⟨w.heap.size, 0, none⟩) n n) (w.alloc (.cells ((List.replicate n (0 : Int)).map numV).toArray 2)) := by
 obtain ⟨i, hi0, he⟩ := Option.map_eq_some_iff.1 infoZ
 injection he with hz he
 injection he with hs hb
 have h := run_make (P := Tryz.prog) w 101 2 i _ Tryz.underlying101 hi0 hz .i64 .i64 (n : Int) (n : Int) (by omega) (Int.le_refl _) (by rw [hb]; omega) (by omega)
 rw [h, Int.toNat_natCast, hs]
 congr 3
 apply Array.ext
 ·simp [madeCells]
 ·intro j h1 h2
  simp [madeCells, Value.cells, Nat.mod_one]
theorem set_last {i : Nat} (y : Int) (l : List Int) : ((((List.replicate (i + 1) (0 : Int)) ++ l).map numV).toArray).setIfInBounds i (numV y) = (((List.replicate i (0 : Int)) ++ y :: l).map numV).toArray := by
 rw [List.setIfInBounds_toArray, List.map_append, List.map_append, List.set_append, List.map_replicate, List.map_replicate]
 rw [if_pos (by simp), List.replicate_succ']
 rw [List.set_append, List.length_replicate, if_neg (by omega), Nat.sub_self]
 simp
theorem idxFee {b o n c i : Nat} (h : i < n) (hn : n <= 1000) (W : World) : (Instr.indexAt 97 (.slice (some ⟨b, o, none⟩) n c) (.int .i64 (i : Int))).run Tryz.prog W = .ok (.pointer (some ⟨b, o + i * 2, none⟩)) W := by
 have hd : decide ((i : Int) < (n : Int)) = true := decide_eq_true (by omega)
 have hd' : decide (i < n) = true := decide_eq_true h
 go_simp
theorem idxInt {b o n c i : Nat} (h : i < n) (hn : n <= 1001) (W : World) : (Instr.indexAt 101 (.slice (some ⟨b, o, none⟩) n c) (.int .i64 (i : Int))).run Tryz.prog W = .ok (.pointer (some ⟨b, o + i, none⟩)) W := by
 have hd : decide ((i : Int) < (n : Int)) = true := decide_eq_true (by omega)
 have hd' : decide (i < n) = true := decide_eq_true h
 go_simp
theorem mloadInt {b o : Nat} {z : Int} {W : World} (hc : W.cell? ⟨b, o, none⟩ = some (numV z)) : (Instr.loadAt 2 (.pointer (some ⟨b, o, none⟩))).run Tryz.prog W = .ok (numV z) W := by
 go_simp
theorem addInt (i : Nat) (h : i <= 1000) (T : TypeId) (W : World) : (binOp .add T (.int .i64 (i : Int)) (.int .i64 1)).run Tryz.prog W = .ok (.int .i64 ((i + 1 : Nat) : Int)) W := by
 go_simp
 first | exact IntWalk.i64_in _ (by omega) | (congr 1; exact IntWalk.i64_in _ (by omega))
end Go.Proofs.YtloiaaolnfimgaaGreat
namespace Go.Proofs.YtloiaaolnfimgaaGreat.Sha
theorem Ms_get (m : Nat -> W) (t : Nat) : ∀ i, i < t -> (Ms m t).getD i 0#32 = M m (t - 1 - i) := by
 induction t with
 | zero => intro i h; omega
 | succ t ih =>
  intro i h
  rcases i with _ | i
  ·rfl
  ·rw [Ms, List.getD_cons_succ, ih i (by omega)]
   congr 1
   omega
theorem M_lt (m : Nat -> W) {t : Nat} (h : t < 16) : M m t = m t := by
 unfold M
 rw [Ms, if_pos h]
 rfl
theorem M_ge (m : Nat -> W) {t : Nat} (h : 16 <= t) : M m t = s1 (M m (t - 2)) + M m (t - 7) + s0 (M m (t - 15)) + M m (t - 16) := by
 unfold M
 rw [Ms, if_neg (by omega)]
 show nxt (Ms m t) = _
 unfold nxt
 rw [Ms_get m t 1 (by omega), Ms_get m t 6 (by omega), Ms_get m t 14 (by omega), Ms_get m t 15 (by omega)]
 rw [show t - 1 - 1 = t - 2 from by omega, show t - 1 - 6 = t - 7 from by omega, show t - 1 - 14 = t - 15 from by omega, show t - 1 - 15 = t - 16 from by omega]
 rfl
theorem foldN_add (n k : Nat) : ∀ (x : St) (l : List UInt8), foldN (n + k) x l = foldN k (foldN n x l) (l.drop (64 * n)) := by
 induction n with
 | zero => intro x l; simp [foldN]
 | succ n ih =>
  intro x l
  rw [Nat.succ_add, foldN, ih, foldN, List.drop_drop]
  congr 2
  omega
theorem foldN_left (n : Nat) : ∀ (x : St) (l b : List UInt8), 64 * n <= l.length -> foldN n x (l ++ b) = foldN n x l := by
 induction n with
 | zero => intro x l b _; rfl
 | succ n ih =>
  intro x l b h
  rw [foldN, foldN, List.take_append_of_le_length (by omega), List.drop_append_of_le_length (by omega), ih]
  rw [List.length_drop]; omega
theorem left_len (l : List UInt8) : (left l).length = l.length % 64 := by unfold left; rw [List.length_drop]; omega
theorem state_part (l b : List UInt8) (h : l.length % 64 + b.length < 64) : state (l ++ b) = state l /\ left (l ++ b) = left l ++ b := by
 have e : (l ++ b).length / 64 = l.length / 64 := by rw [List.length_append]; omega
 refine ⟨?_, ?_⟩
 ·unfold state; rw [e, foldN_left _ _ _ _ (by omega)]
 ·unfold left; rw [e, List.drop_append_of_le_length (by omega)]
theorem state_full (l b : List UInt8) (h : l.length % 64 + b.length = 64) : state (l ++ b) = blk (state l) (left l ++ b) /\ left (l ++ b) = [] := by
 have e : (l ++ b).length / 64 = l.length / 64 + 1 := by rw [List.length_append]; omega
 have hd : (l ++ b).drop (64 * (l.length / 64)) = left l ++ b := by unfold left; rw [List.drop_append_of_le_length (by omega)]
 have hl : (left l ++ b).length = 64 := by rw [List.length_append, left_len]; exact h
 refine ⟨?_, ?_⟩
 ·unfold state
  rw [e, foldN_add, foldN_left _ _ _ _ (by omega), hd, foldN, foldN, List.take_of_length_le (by omega)]
 ·unfold left; rw [e]; exact List.drop_eq_nil_of_le (by rw [List.length_append]; omega)
theorem told_len (n many : Nat) : (told n many).length = many := by simp [told]
theorem padded_len (l : List UInt8) : (padded l).length % 64 = 0 := by
 unfold padded zeros noughts
 simp only [List.length_append, List.length_cons, List.length_replicate, told_len]
 omega
theorem toldSt_len (x : St) : (toldSt x).length = 32 := by simp [toldSt, St.list, told_len]
theorem sum_len (l : List UInt8) : (sum l).length = 32 := toldSt_len _
theorem ch_bit (e f g : W) (i : Nat) : (ch e f g).getLsbD i = if e.getLsbD i then f.getLsbD i else g.getLsbD i := by
 simp only [ch, BitVec.getLsbD_xor, BitVec.getLsbD_and]
 cases e.getLsbD i <;> cases f.getLsbD i <;> cases g.getLsbD i <;> rfl
theorem maj_bit (a b c : W) (i : Nat) : (maj a b c).getLsbD i = decide (2 <= (a.getLsbD i).toNat + (b.getLsbD i).toNat + (c.getLsbD i).toNat) := by
 simp only [maj, BitVec.getLsbD_or, BitVec.getLsbD_and]
 cases a.getLsbD i <;> cases b.getLsbD i <;> cases c.getLsbD i <;> rfl
theorem low_succ (x : W) (k : Nat) : x.toNat % 2 ^ (k + 1) = x.toNat % 2 ^ k + (x.getLsbD k).toNat * 2 ^ k := by
 have h2 : (x.getLsbD k).toNat = x.toNat / 2 ^ k % 2 := by
  show (x.toNat.testBit k).toNat = _
  rw [Nat.testBit_eq_decide_div_mod_eq]
  by_cases h : x.toNat / 2 ^ k % 2 = 1
  ·rw [decide_eq_true h, h]; rfl
  ·rw [decide_eq_false h]; simp; omega
 rw [h2, Nat.pow_succ, Nat.mod_mul, Nat.mul_comm (2 ^ k)]
theorem low_all (x : W) : x.toNat % 2 ^ 32 = x.toNat := Nat.mod_eq_of_lt x.isLt
def ringAt (m : Nat -> W) (t j : Nat) : W := M m ((max t 16) - 1 - (((max t 16) - 1 - j) % 16))
theorem ringAt_low (m : Nat -> W) (t j : Nat) (h : t <= 16) (hj : j < 16) : ringAt m t j = m j := by
 unfold ringAt
 rw [show max t 16 = 16 from by omega, show 16 - 1 - ((16 - 1 - j) % 16) = j from by omega, M_lt m hj]
theorem ringAt_read (m : Nat -> W) (t i : Nat) (h : 16 <= t) (hi : i < 16) : ringAt m t ((t + i) % 16) = M m (t - 16 + i) := by
 unfold ringAt
 rw [show max t 16 = t from by omega]
 congr 1
 omega
theorem ringAt_new (m : Nat -> W) (t : Nat) (h : 16 <= t) : ringAt m (t + 1) (t % 16) = M m t := by
 unfold ringAt
 rw [show max (t + 1) 16 = t + 1 from by omega]
 congr 1
 omega
theorem ringAt_old (m : Nat -> W) (t j : Nat) (hj : j < 16) (hne : j ≠ t % 16 \/ t < 16) : ringAt m (t + 1) j = ringAt m t j := by
 unfold ringAt
 by_cases h : 16 <= t
 ·rw [show max (t + 1) 16 = t + 1 from by omega, show max t 16 = t from by omega]
  congr 1
  omega
 ·rw [show max (t + 1) 16 = 16 from by omega, show max t 16 = 16 from by omega]
theorem ring_sum (m : Nat -> W) (t : Nat) (h : 16 <= t) : M m (t - 16) + (s0 (M m (t - 15)) + M m (t - 7) + s1 (M m (t - 2))) = M m t := by
 rw [M_ge m h]
 generalize M m (t - 16) = a
 generalize s0 (M m (t - 15)) = b
 generalize M m (t - 7) = c
 generalize s1 (M m (t - 2)) = d
 rw [BitVec.add_comm a, BitVec.add_comm d c, BitVec.add_assoc c, BitVec.add_comm d b, <- BitVec.add_assoc c, BitVec.add_comm c b]
example : sum [97, 98, 99] = [0xba, 0x78, 0x16, 0xbf, 0x8f, 0x01, 0xcf, 0xea, 0x41, 0x41, 0x40, 0xde, 0x5d, 0xae, 0x22, 0x23, 0xb0, 0x03, 0x61, 0xa3, 0x96, 0x17, 0x7a, 0x9c, 0xb4, 0x10, 0xff, 0x61, 0xf2, 0x00, 0x15, 0xad] := by decide +kernel
end Go.Proofs.YtloiaaolnfimgaaGreat.Sha
namespace Go.Proofs.YtloiaaolnfimgaaGreat
open Go.RowKit
theorem u64_and31 (s : Nat) (h : s < 18446744073709551616) : bits .and .u64 (s : Int) 31 = ((s % 32 : Nat) : Int) := by
 rw [show (31 : Int) = ((31 : Nat) : Int) from rfl, u64_and_nat _ _ h (by decide), nat_mask5]
theorem rotl_val (x : BitVec 32) (k : Nat) (h1 : 1 <= k) (h2 : k <= 31) : bits .or .u32 ((x.toNat : Int) * 2 ^ k % 4294967296) ((x.toNat : Int) / 2 ^ (32 - k)) = ((Sha.ror x (32 - k)).toNat : Int) := by
 rw [bv_shl, bv_shr, bv_or, Sha.ror, BitVec.or_comm, show 32 - (32 - k) = k from by omega]
theorem rotl_up (x : BitVec 32) (k : Nat) (h1 : 1 <= k) (h2 : k <= 31) (w : World) :
  Calls Tryz.prog 179 #[.int .u32 (x.toNat : Int), .int .i64 (k : Int)] w fun e w' => e = .returned (.int .u32 ((Sha.ror x (32 - k)).toNat : Int)) /\ w = w' := by
 have hx := x.isLt
 have ha := u64_and31 k (by omega)
 rw [Nat.mod_eq_of_lt (by omega)] at ha
 go_enter Tryz.func179, Tryz.ntmps179
 go_wp2
 go_ret
 exact ⟨ret_u32 (rotl_val x k h1 h2), rfl⟩
theorem rotl_down (x : BitVec 32) (n : Nat) (h1 : 1 <= n) (h2 : n <= 31) (w : World) :
  Calls Tryz.prog 179 #[.int .u32 (x.toNat : Int), .int .i64 (-(n : Int))] w fun e w' => e = .returned (.int .u32 ((Sha.ror x n).toNat : Int)) /\ w = w' := by
 have hx := x.isLt
 obtain ⟨k, hk⟩ : ∃ k, 32 - n = k := ⟨_, rfl⟩
 have ha := u64_and31 (18446744073709551616 - n) (by omega)
 rw [show (18446744073709551616 - n) % 32 = k from by omega] at ha
 have hw : IntKind.u64.wrap (-(n : Int)) = ((18446744073709551616 - n : Nat) : Int) := by simp [IntKind.wrap, IntKind.bits, IntKind.signed]; omega
 have hkn : n = 32 - k := by omega
 have hk1 : 1 <= k := by omega
 have hk2 : k <= 31 := by omega
 rw [<- hw] at ha
 have HK := Lib.hid hkn
 clear hk hw hkn
 go_enter Tryz.func179, Tryz.ntmps179
 go_wp2
 go_ret
 exact ⟨ret_u32 (by rw [HK.out]; exact rotl_val x k hk1 hk2), rfl⟩
theorem rotl_sub (x : BitVec 32) (n : Nat) (h1 : 1 <= n) (h2 : n <= 31) (w : World) :
  Calls Tryz.prog 179 #[.int .u32 (x.toNat : Int), .int .i64 (32 - (n : Int))] w fun e w' => e = .returned (.int .u32 ((Sha.ror x n).toNat : Int)) /\ w = w' := by
 have h := rotl_up x (32 - n) (by omega) (by omega) w
 rw [show 32 - (32 - n) = n from by omega, show ((32 - n : Nat) : Int) = 32 - (n : Int) from by omega] at h
 exact h
def rots (x : BitVec 32) (s : Nat) (ps : List Nat) : BitVec 32 := ps.foldl (fun y n => y ^^^ Sha.ror x n) (x >>> s)
theorem rots_snoc (x : BitVec 32) (s : Nat) (ps : List Nat) (n : Nat) : rots x s (ps ++ [n]) = rots x s ps ^^^ Sha.ror x n := by simp [rots]
theorem rots_any (x : BitVec 32) (v : Value) (s : Nat) (ps : List Nat) (bs bp bl : Nat) (w : World) (hs : s <= 32) (hp : ∀ n ∈ ps, 1 <= n /\ n <= 31) (hl : ps.length <= 100) (h : IsRot w v s ps bs bp bl) :
  Calls Tryz.prog 192 #[.int .u32 (x.toNat : Int), .pointer (some ⟨bs, 0, none⟩), .pointer (some ⟨bp, 0, none⟩)] w fun e w' => e = .returned (.int .u32 ((rots x s ps).toNat : Int)) /\ w = w' := by
 have hx := x.isLt
 have hc1 : w.cell? ⟨bs, 0, none⟩ = some (.int .i64 (s : Int)) := (h.sh.cell 0).trans rfl
 have hc2 : w.cell? ⟨bp, 0, none⟩ = some (.slice (some ⟨bl, 0, none⟩) ps.length ps.length) := (h.pl.cell 0).trans rfl
 have hli := h.li
 have HP := Lib.hid hp
 have h0 : rots x s [] = x >>> s := rfl
 have H0 := Lib.hid h0
 clear h hp h0
 go_enter Tryz.func192, Tryz.ntmps192
 go_wp2
 go_loop [5, 13] (fun y t => ∃ k : Nat, k <= ps.length /\ t = .int .i64 k /\ y = .int .u32 ((rots x s (ps.take k)).toNat : Int)) (fun _ t => ps.length - (intOf t).toNat)
 case atStart => exact ⟨0, by omega, rfl, by rw [List.take_zero, H0.out, bv_shr]⟩
 case round =>
  obtain ⟨k, hk, rfl, rfl⟩ := hrel
  by_cases hlt : k < ps.length
  ·obtain ⟨p, hpk⟩ : ∃ p, ps[k] = p := ⟨_, rfl⟩
   have hc3 : w.cell? ⟨bl, k, none⟩ = some (.int .i64 (p : Int)) := (hli.cell k).trans (by simp [hlt, hpk])
   obtain ⟨hp1, hp2⟩ := HP.out p (by rw [<- hpk]; exact List.getElem_mem hlt)
   have hn : rots x s (ps.take (k + 1)) = rots x s (ps.take k) ^^^ Sha.ror x p := by rw [List.take_succ_eq_append_getElem hlt, rots_snoc, hpk]
   have HN := Lib.hid hn
   clear hn hpk
   generalize rots x s (ps.take k) = y at *
   go_wp2_with (first | (go_at_call 179; refine (rotl_sub x p hp1 hp2 _).mono ?_; rintro e w' ⟨rfl, rfl⟩))
   go_round
   case rel => exact ⟨k + 1, by omega, by go_num, by rw [HN.out, bv_xor]⟩
   case measure => simp [intOf]; omega
  ·obtain rfl : k = ps.length := by omega
   rw [List.take_length]
   go_wp2
   go_ret
   exact ⟨rfl, rfl⟩
theorem be_snoc (l : List UInt8) (c : UInt8) : Sha.be (l ++ [c]) = (Sha.be l <<< 8) ||| Sha.zx c := by simp [Sha.be]
theorem zxv (c : UInt8) : (c.toNat : Int) = ((Sha.zx c).toNat : Int) := by
 unfold Sha.zx
 rw [BitVec.toNat_setWidth]
 have := c.toNat_lt
 show (c.toNat : Int) = ((c.toNat % 2 ^ 32 : Nat) : Int)
 omega
theorem number_any (A : Option Addr) (n c : Nat) (l : List UInt8) (w : World) (hn : l.length = n) (hm : n <= 1099511627776) (hr : Rd w A l) :
  Calls Tryz.prog 186 #[.slice A n c] w fun e w' => e = .returned (.int .u32 ((Sha.be l).toNat : Int)) /\ w = w' := by
 subst hn
 have h0 : ((Sha.be []).toNat : Int) = 0 := rfl
 have H0 := Lib.hid h0
 clear h0
 go_enter Tryz.func186, Tryz.ntmps186
 go_wp2
 go_loop [2, 7] (fun v t => ∃ k : Nat, k <= l.length /\ t = .int .i64 k /\ v = .int .u32 ((Sha.be (l.take k)).toNat : Int)) (fun _ t => l.length - (intOf t).toNat)
 case atStart => exact ⟨0, by omega, rfl, by rw [List.take_zero, H0.out]⟩
 case round =>
  obtain ⟨k, hk, rfl, rfl⟩ := hrel
  by_cases hlt : k < l.length
  ·obtain ⟨b, o, rfl, hc⟩ := hr.at_ hlt
   have hnext : Sha.be (l.take (k + 1)) = (Sha.be (l.take k) <<< 8) ||| Sha.zx l[k] := by
    rw [List.take_succ_eq_append_getElem hlt, be_snoc]
   have HN := Lib.hid hnext
   clear hnext
   generalize Sha.be (l.take k) = z at *
   replace hc : w.cell? ⟨b, o + k, none⟩ = some (.int .u8 (l[k].toNat : Int)) := hc
   generalize l[k] = q at *
   have hql := q.toNat_lt
   have hzl := z.isLt
   go_wp2
   go_round
   case rel => exact ⟨k + 1, by omega, by go_num, by rw [HN.out, <- bv_or, <- bv_shl, <- zxv]; rfl⟩
   case measure => simp [intOf]; omega
  ·obtain rfl : k = l.length := by omega
   rw [List.take_length]
   go_wp2
   go_ret
   exact ⟨rfl, rfl⟩
section
variable {P : Program} {ops : Array Oper} {rest : List Oper} {o : Oper} {a : Act} {w : World} {Q : Exit -> Act -> World -> Prop}
theorem wpList_buildC (hgd : o.guard = none) (T : TypeId) (parts : Array (Nat × Operand)) (ho : o.op = .build T parts) (vs : Array (Nat × Value)) (hp : (parts.map fun (i, x) => (i, a.eval x)) = vs)
  {v : Value} {w' : World} (hr : (Instr.build T vs).run P w = .ok v w')
  (h : wpList P ops Q rest (a.put o.dst v) w') : wpList P ops Q (o :: rest) a w :=
 wpList_plain hgd fun _ hK => by
  unfold Oper.wp execOp
  simp only [ho, Sem.run_bind, Sem.run_pure, Result.andThen_ok, hp, hr]
  exact hK _ _ h
end
def kCells : Array Value := (Sha.ks.map wordV).toArray
def z64 : Array Value := Array.replicate 64 (.int .u32 0)
theorem info64 : (Tryz.prog.info? 231).map (·.size) = some 64 := by kernel_rfl
theorem alloc64 (w : World) : (Instr.alloc 231 true (.tuple #[])).run Tryz.prog w = .ok (.pointer (some ⟨w.heap.size, 0, none⟩)) (w.alloc (.cells z64 231)) := by kernel_rfl
def kParts : Array (Nat × Value) := ((List.range 64).map fun i => (i, wordV (Sha.kc i))).toArray
theorem buildK (w : World) : (Instr.build 231 kParts).run Tryz.prog w = .ok (.agg kCells) w := by kernel_rfl
theorem kCells_size : kCells.size = 64 := by simp [kCells, Sha.ks]
theorem kCells_one : kCells.all (·.oneCell') = true := by kernel_rfl
theorem kCells_get (t : Nat) (h : t < 64) : kCells[t]? = some (.int .u32 ((Sha.kc t).toNat : Int)) := by
 unfold kCells Sha.kc
 have : t < Sha.ks.length := h
 simp [this]
theorem storeK (w : World) : (Instr.storeAt 231 (.pointer (some ⟨w.heap.size, 0, none⟩)) (.agg kCells)).run Tryz.prog (w.alloc (.cells z64 231)) = .ok () (w.alloc (.cells kCells 231)) :=
 run_storeAt_new w 231 z64 kCells (by rw [kCells_size]; exact info64) (by rw [kCells_size]; simp [z64]) kCells_one
theorem constants_any (w : World) : Calls Tryz.prog 187 #[] w fun e w' => e = .returned (.agg kCells) /\ Below w.heap.size w w' := by
 go_enter Tryz.func187, Tryz.ntmps187
 go_wp2_with (first
  | (with_reducible refine wpList_alloc rfl 231 rfl (alloc64 _) ?_)
  | (refine wpList_buildC rfl 231 _ rfl kParts (by kernel_rfl) (buildK _) ?_)
  | (refine wpList_store rfl 231 (.tmp 0) (.tmp 1) rfl (.pointer (some ⟨w.heap.size, 0, none⟩)) (.agg kCells) rfl rfl (storeK _) ?_))
 refine bodyPost_ret (results_cell_row rfl _ _ w.heap.size 231 kCells (0, 0) _ rfl (Row.new w 231 kCells) Tryz.underlying231 rfl (by rw [kCells_size]; exact info64)) rfl ⟨rfl, below_new w _⟩
theorem rotations_any (s : Nat) (n bl : Nat) (w : World) :
  Calls Tryz.prog 188 #[.int .i64 (s : Int), .slice (some ⟨bl, 0, none⟩) n n] w fun e w' => e = .returned (.func (.func 192) #[] #[.pointer (some ⟨w.heap.size, 0, none⟩), .pointer (some ⟨w.heap.size + 1, 0, none⟩)]) /\ (w.alloc (.cells #[intV s] 3)).alloc (.cells #[.slice (some ⟨bl, 0, none⟩) n n] 271) = w' := by
 go_enter Tryz.func188, Tryz.ntmps188
 go_wp2
 go_ret
 exact ⟨rfl, rfl⟩
theorem at_any (i : Int) (t j bx bt : Nat) (w : World) (h1 : 0 <= i) (h2 : i <= 7) (ht : t < 64) (hj : (i + 64 - (t : Int)) % 8 = (j : Int)) (hc : w.cell? ⟨bt, 0, none⟩ = some (.int .i64 (t : Int))) :
  Calls Tryz.prog 190 #[.int .i64 i, .pointer (some ⟨bx, 0, none⟩), .pointer (some ⟨bt, 0, none⟩)] w fun e w' => e = .returned (.pointer (some ⟨bx, j, none⟩)) /\ w = w' := by
 have hj8 : j < 8 := by omega
 go_enter Tryz.func190, Tryz.ntmps190
 go_wp2
 go_ret
 exact ⟨rfl, rfl⟩
end Go.Proofs.YtloiaaolnfimgaaGreat
namespace Go.Proofs.YtloiaaolnfimgaaGreat
open Go.RowKit Go.Shelf
attribute [local go_sem] Oper.semAt_some
theorem IsFn.sub {w : World} {b s : Nat} {ps : List Nat} {S S' : Nat -> Prop} (h : IsFn w b s ps S) (hk : ∀ k, S k -> k < w.heap.size -> S' k) : IsFn w b s ps S' := by
 obtain ⟨v, bs, bp, bl, h1, h2, h3, h4, h5, h6⟩ := h
 exact ⟨v, bs, bp, bl, h1, h2, hk b h3 h1.lt, hk bs h4 h2.sh.lt, hk bp h5 h2.pl.lt, hk bl h6 h2.li.lt⟩
theorem Row.newAt {W : World} {g : Nat} {t : TypeId} {cs : Array Value} (h : W.heap.size = g) : Row (W.alloc (.cells cs t)) g t cs := by subst h; exact Row.new W t cs
theorem all_any (bm : Nat) (w : World) : Calls Tryz.prog 189 #[.pointer (some ⟨bm, 0, none⟩)] w fun e w' => ∃ bq bn bf, e = .returned (.func (.func 193) #[] #[.pointer (some ⟨bq, 0, none⟩), .pointer (some ⟨bn, 0, none⟩), .pointer (some ⟨bf, 0, none⟩)]) /\ AllFn w' bm bq bn bf (fun k => w.heap.size <= k) /\ Below w.heap.size w w' := by
 go_enter Tryz.func189, Tryz.ntmps189
 go_wp2_with (first | (go_at_call 188; refine (rotations_any _ _ _ _).mono ?_; rintro e w' ⟨rfl, rfl⟩))
 go_ret
 refine ⟨w.heap.size, _, _, rfl, ⟨Nat.le_refl _, ?_, ⟨_, w.heap.size + 1 + 1, w.heap.size + 1 + 1 + 1, w.heap.size + 1, ?_, ⟨rfl, ?_, ?_, ?_⟩, ?_, ?_, ?_, ?_⟩, ⟨_, w.heap.size + 1 + 1 + 1 + 1 + 1, w.heap.size + 1 + 1 + 1 + 1 + 1 + 1, w.heap.size + 1 + 1 + 1 + 1, ?_, ⟨rfl, ?_, ?_, ?_⟩, ?_, ?_, ?_, ?_⟩⟩, ?_⟩
 all_goals first
  | omega
  | ((repeat (first | exact Row.newAt (by simp only [World.size_alloc]) | refine Row.alloc ?_ _)); done)
  | (repeat (first | exact Below.refl _ _ | refine Below.alloc ?_ (by first | exact Nat.le_refl _ | (simp only [World.size_alloc]; omega)) _))
end Go.Proofs.YtloiaaolnfimgaaGreat
namespace Go.Proofs.YtloiaaolnfimgaaGreat
open Go.RowKit Go.Shelf
attribute [local go_sem] Oper.semAt_some
theorem rots_s0 (x : BitVec 32) : rots x 3 [7, 18] = Sha.s0 x := by
 simp only [rots, List.foldl_cons, List.foldl_nil, Sha.s0]
 rw [BitVec.xor_comm (x >>> 3), BitVec.xor_assoc, BitVec.xor_comm (x >>> 3), <- BitVec.xor_assoc]
theorem rots_s1 (x : BitVec 32) : rots x 10 [17, 19] = Sha.s1 x := by
 simp only [rots, List.foldl_cons, List.foldl_nil, Sha.s1]
 rw [BitVec.xor_comm (x >>> 10), BitVec.xor_assoc, BitVec.xor_comm (x >>> 10), <- BitVec.xor_assoc]
theorem shr32 (x : BitVec 32) : x >>> 32 = 0#32 := by
 apply BitVec.eq_of_toNat_eq
 rw [BitVec.toNat_ushiftRight, Nat.shiftRight_eq_div_pow, Nat.div_eq_of_lt x.isLt]
 rfl
theorem rots_S0 (x : BitVec 32) : rots x 32 [2, 13, 22] = Sha.S0 x := by
 simp [rots, Sha.S0, shr32]
theorem rots_S1 (x : BitVec 32) : rots x 32 [6, 11, 25] = Sha.S1 x := by
 simp [rots, Sha.S1, shr32]
def ringC (m : Nat -> BitVec 32) (t : Nat) : Array Value := ((List.range 16).map fun j => wordV (Sha.ringAt m t j)).toArray
theorem ringC_get (m : Nat -> BitVec 32) (t j : Nat) (h : j < 16) : (ringC m t)[j]? = some (.int .u32 ((Sha.ringAt m t j).toNat : Int)) := by simp [ringC, h]
theorem ringC_set (m : Nat -> BitVec 32) (t : Nat) (h : 16 <= t) : (ringC m t).setIfInBounds (t % 16) (wordV (Sha.M m t)) = ringC m (t + 1) := by
 apply Array.ext_getElem?
 intro i
 rw [Array.getElem?_setIfInBounds]
 by_cases hi : i < 16
 ·rw [ringC_get m (t + 1) i hi]
  by_cases e : t % 16 = i
  ·subst e; rw [if_pos rfl, if_pos (by simp [ringC]; omega), Sha.ringAt_new m t h]
  ·rw [if_neg e, ringC_get m t i hi, Sha.ringAt_old m t i hi (.inl (fun x => e x.symm))]
 ·rw [if_neg (by omega)]
  simp [ringC, hi]
theorem ringC_low (m : Nat -> BitVec 32) (t : Nat) (h : t < 16) : ringC m (t + 1) = ringC m t := by
 unfold ringC
 congr 2
 funext j
 simp only [Sha.ringAt, show max (t + 1) 16 = 16 from by omega, show max t 16 = 16 from by omega]
def wordEnc (m : Nat -> BitVec 32) (t : Nat) : Array Value := #[.int .i64 (t : Int), .int .u32 ((Sha.M m t).toNat : Int)]
theorem loadQ {b o : Nat} {v : Option Addr} {W : World} (hc : W.cell? ⟨b, o, none⟩ = some (.pointer v)) : (Instr.loadAt 272 (.pointer (some ⟨b, o, none⟩))).run Tryz.prog W = .ok (.pointer v) W := by
 go_simp
theorem loadF {b o : Nat} {f : Fn} {x y : Array Value} {W : World} (hc : W.cell? ⟨b, o, none⟩ = some (.func f x y)) : (Instr.loadAt 259 (.pointer (some ⟨b, o, none⟩))).run Tryz.prog W = .ok (.func f x y) W := by
 go_simp
theorem idxR {b j : Nat} {W : World} (h : j < 16) : (Instr.indexAt 262 (.pointer (some ⟨b, 0, none⟩)) (.int .i64 (j : Int))).run Tryz.prog W = .ok (.pointer (some ⟨b, j, none⟩)) W := by
 have h1 : (j : Int) < 16 := by omega
 have h2 : (0 : Int) <= (j : Int) := by omega
 go_simp
theorem idxM {b j : Nat} {i : Int} {W : World} (hi : i = (j : Int)) (h : j < 16) : (Instr.indexAt 262 (.pointer (some ⟨b, 0, none⟩)) (.int .i64 i)).run Tryz.prog W = .ok (.pointer (some ⟨b, j, none⟩)) W := by
 rw [hi]; exact idxR h
theorem rot_s0 (x : BitVec 32) {v : Value} {bs bp bl : Nat} (w : World) (h : IsRot w v 3 [7, 18] bs bp bl) : Calls Tryz.prog 192 #[wordV x, .pointer (some ⟨bs, 0, none⟩), .pointer (some ⟨bp, 0, none⟩)] w fun e w' => e = .returned (wordV (Sha.s0 x)) /\ w = w' := by
 rw [<- rots_s0]; exact rots_any x v 3 [7, 18] bs bp bl w (by decide) (by decide) (by decide) h
theorem rot_s1 (x : BitVec 32) {v : Value} {bs bp bl : Nat} (w : World) (h : IsRot w v 10 [17, 19] bs bp bl) : Calls Tryz.prog 192 #[wordV x, .pointer (some ⟨bs, 0, none⟩), .pointer (some ⟨bp, 0, none⟩)] w fun e w' => e = .returned (wordV (Sha.s1 x)) /\ w = w' := by
 rw [<- rots_s1]; exact rots_any x v 10 [17, 19] bs bp bl w (by decide) (by decide) (by decide) h
theorem rot_S0 (x : BitVec 32) {v : Value} {bs bp bl : Nat} (w : World) (h : IsRot w v 32 [2, 13, 22] bs bp bl) : Calls Tryz.prog 192 #[wordV x, .pointer (some ⟨bs, 0, none⟩), .pointer (some ⟨bp, 0, none⟩)] w fun e w' => e = .returned (wordV (Sha.S0 x)) /\ w = w' := by
 rw [<- rots_S0]; exact rots_any x v 32 [2, 13, 22] bs bp bl w (by decide) (by decide) (by decide) h
theorem rot_S1 (x : BitVec 32) {v : Value} {bs bp bl : Nat} (w : World) (h : IsRot w v 32 [6, 11, 25] bs bp bl) : Calls Tryz.prog 192 #[wordV x, .pointer (some ⟨bs, 0, none⟩), .pointer (some ⟨bp, 0, none⟩)] w fun e w' => e = .returned (wordV (Sha.S1 x)) /\ w = w' := by
 rw [<- rots_S1]; exact rots_any x v 32 [6, 11, 25] bs bp bl w (by decide) (by decide) (by decide) h
theorem remN {x y j : Nat} {W : World} (h0 : 0 < y) (hx : x < 9223372036854775808) (hy : y < 9223372036854775808) (hj : x % y = j) : (binOp .rem 3 (.int .i64 (x : Int)) (.int .i64 (y : Int))).run Tryz.prog W = .ok (.int .i64 (j : Int)) W := by
 subst hj; exact remI h0 hx hy
theorem all1_seq (m : Nat -> BitVec 32) (bm bq bn bf : Nat) (S : Nat -> Prop) (hS : ¬ S bm) (w : World) (n1 : Nat) (hn1 : 1 <= n1) (hrow : Row w bm 262 (ringC m 0)) (hall : AllFn w bm bq bn bf S) :
  SeqC Fence.wide n1 Tryz.prog 193 #[.pointer (some ⟨bq, 0, none⟩), .pointer (some ⟨bn, 0, none⟩), .pointer (some ⟨bf, 0, none⟩)] (wordEnc m) (Keeps S bm) (fun xs => xs.length = 64) (fun _ => True) (fun pre t => t = pre.length /\ t < 64) (fun r => r = bm) w := fun l J Jx W hW hJ hJx hY h0 => by
 have hrw : Row W bm 262 (ringC m 0) := hrow.belowAll hW
 have hal := hall.later hW
 have HY := Lib.hid hY
 have HJ := Lib.hid hJ
 clear hY hJ hJx hrow hW hall
 refine callsIn_of_wp Tryz.func193 rfl trivial ?_ rfl
 simp only [Tryz.ntmps193, List.size_toArray, List.length_cons, List.length_nil, Nat.reduceAdd, Nat.reduceSub, Array.replicate_succ, Array.replicate_zero, List.push_toArray, List.append_toArray, List.nil_append, List.cons_append]
 gi_wp2
 refine wpIn_scope_wide ?_
 gi_wp2
 refine wpIn_label ?_
 gi_wp2
 gi_loopw [7] (fun v wr => ∃ (pre : List Nat), v = .int .i64 (pre.length : Int) /\ pre.length <= 64 /\ Row wr bm 262 (ringC m pre.length) /\ AllFn wr bm bq bn bf S /\ J pre wr) (fun v _ => 64 - (intOf v).toNat)
 case atStart => exact ⟨[], rfl, by simp, hrw, hal, h0⟩
 case round =>
  obtain ⟨pre, rfl, hle, hr, ha, hJs⟩ := hrel
  clear hrw hal h0
  obtain ⟨t, ht⟩ : ∃ t, pre.length = t := ⟨_, rfl⟩
  rw [ht] at hle hr
  have HT := Lib.hid ht
  have hpl : ((pre.length : Nat) : Int) = (t : Int) := by rw [ht]
  rw [hpl]
  clear hpl ht
  obtain ⟨hsq, hq, hn, hf⟩ := ha
  have hcq : wr.cell? ⟨bq, 0, none⟩ = some (.pointer (some ⟨bm, 0, none⟩)) := (hq.cell 0).trans rfl
  by_cases hlt : t < 64
  ·obtain ⟨j0, hj0⟩ : ∃ j0, t % 16 = j0 := ⟨_, rfl⟩
   have hj0' : (t : Int) % 16 = (j0 : Int) := by omega
   have hj0l : j0 < 16 := by omega
   by_cases hge : 16 <= t
   ·have hd : decide ((16 : Int) <= (t : Int)) = true := by simp; omega
    obtain ⟨j1, hj1⟩ : ∃ j1, (t + 1) % 16 = j1 := ⟨_, rfl⟩
    obtain ⟨j2, hj2⟩ : ∃ j2, (t + 9) % 16 = j2 := ⟨_, rfl⟩
    obtain ⟨j3, hj3⟩ : ∃ j3, (t + 14) % 16 = j3 := ⟨_, rfl⟩
    have g0 := Sha.ringAt_read m t 0 hge (by decide)
    have g1 := Sha.ringAt_read m t 1 hge (by decide)
    have g2 := Sha.ringAt_read m t 9 hge (by decide)
    have g3 := Sha.ringAt_read m t 14 hge (by decide)
    rw [Nat.add_zero, hj0] at g0
    rw [hj1, show t - 16 + 1 = t - 15 from by omega] at g1
    rw [hj2, show t - 16 + 9 = t - 7 from by omega] at g2
    rw [hj3, show t - 16 + 14 = t - 2 from by omega] at g3
    have hc0 := (hr.cell j0).trans (ringC_get m t j0 hj0l)
    have hc1 := (hr.cell j1).trans (ringC_get m t j1 (by omega))
    have hc2 := (hr.cell j2).trans (ringC_get m t j2 (by omega))
    have hc3 := (hr.cell j3).trans (ringC_get m t j3 (by omega))
    rw [g0] at hc0
    rw [g1] at hc1
    rw [g2] at hc2
    rw [g3] at hc3
    have hsum := Sha.ring_sum m t hge
    rw [Nat.add_zero] at hc0
    have hset := ringC_set m t hge
    rw [hj0] at hset
    have hj1l : j1 < 16 := by omega
    have hj2l : j2 < 16 := by omega
    have hj3l : j3 < 16 := by omega
    clear g0 g1 g2 g3
    obtain ⟨x0, hx0⟩ : ∃ x, Sha.M m (t - 16) = x := ⟨_, rfl⟩
    obtain ⟨x1, hx1⟩ : ∃ x, Sha.M m (t - 15) = x := ⟨_, rfl⟩
    obtain ⟨x2, hx2⟩ : ∃ x, Sha.M m (t - 7) = x := ⟨_, rfl⟩
    obtain ⟨x3, hx3⟩ : ∃ x, Sha.M m (t - 2) = x := ⟨_, rfl⟩
    rw [hx0] at hc0 hsum
    rw [hx1] at hc1 hsum
    rw [hx2] at hc2 hsum
    rw [hx3] at hc3 hsum
    have HSUM := Lib.hid hsum
    have HSET := Lib.hid hset
    have hff := hf
    have hnn := hn
    obtain ⟨nv, ns, np, nl, hnr, hrn, hnS⟩ := hn
    obtain ⟨fv, fs, fp, fl, hfr, hrf, hfS⟩ := hf
    have hcn := (hnr.cell 0).trans (rfl : _ = some nv)
    have hcf := (hfr.cell 0).trans (rfl : _ = some fv)
    rw [hrn.val] at hcn
    rw [hrf.val] at hcf
    clear hx0 hx1 hx2 hx3 hsum hset hnS hfS hnr hfr
    have HJ0 := Lib.hid hj0
    have HJ1 := Lib.hid hj1
    have HJ2 := Lib.hid hj2
    have HJ3 := Lib.hid hj3
    clear hj0 hj1 hj2 hj3
    gi_wp2
    refine wpIn_region_last wide_wide [Pr.eq (.pointer (some ⟨bm, 0, none⟩)), Pr.eq (.int .i64 ((t : Int) % 16)), Pr.eq (.pointer (some ⟨bm, 0, none⟩)), Pr.eq (.pointer (some ⟨bm, j0, none⟩)), Pr.eq (.int .u32 ((x0).toNat : Int)), Pr.eq (.func (.func 192) #[] #[.pointer (some ⟨ns, 0, none⟩), .pointer (some ⟨np, 0, none⟩)]), Pr.eq (.pointer (some ⟨bm, 0, none⟩)), Pr.eq (.int .i64 (t : Int)), Pr.eq (.int .i64 ((t + 1 : Nat) : Int)), Pr.eq (.int .i64 (j1 : Int)), Pr.eq (.pointer (some ⟨bm, 0, none⟩)), Pr.eq (.pointer (some ⟨bm, j1, none⟩)), Pr.eq (.int .u32 ((x1).toNat : Int)), Pr.eq (.int .u32 ((Sha.s0 x1).toNat : Int)), Pr.eq (.pointer (some ⟨bm, 0, none⟩)), Pr.eq (.int .i64 (t : Int)), Pr.eq (.int .i64 ((t + 9 : Nat) : Int)), Pr.eq (.int .i64 (j2 : Int)), Pr.eq (.pointer (some ⟨bm, 0, none⟩)), Pr.eq (.pointer (some ⟨bm, j2, none⟩)), Pr.eq (.int .u32 ((x2).toNat : Int)), Pr.eq (.int .u32 ((Sha.s0 x1 + x2).toNat : Int)), Pr.eq (.func (.func 192) #[] #[.pointer (some ⟨fs, 0, none⟩), .pointer (some ⟨fp, 0, none⟩)]), Pr.eq (.pointer (some ⟨bm, 0, none⟩)), Pr.eq (.int .i64 (t : Int)), Pr.eq (.int .i64 ((t + 14 : Nat) : Int)), Pr.eq (.int .i64 (j3 : Int)), Pr.eq (.pointer (some ⟨bm, 0, none⟩)), Pr.eq (.pointer (some ⟨bm, j3, none⟩)), Pr.eq (.int .u32 ((x3).toNat : Int)), Pr.eq (.int .u32 ((Sha.s1 x3).toNat : Int)), Pr.eq (.int .u32 ((Sha.s0 x1 + x2 + Sha.s1 x3).toNat : Int)), Pr.eq (.int .u32 ((x0 + (Sha.s0 x1 + x2 + Sha.s1 x3)).toNat : Int)), Pr.eq (.pointer (some ⟨bm, 0, none⟩)), Pr.eq (.pointer (some ⟨bm, j0, none⟩))] (by kernel_rfl) (by kernel_rfl) (by kernel_rfl) (by kernel_rfl) (by kernel_rfl) (by kernel_rfl) rfl ⟨?_, ?_, ?_, ?_, ?_, ?_, ?_, ?_, ?_, ?_, ?_, ?_, ?_, ?_, ?_, ?_, ?_, ?_, ?_, ?_, ?_, ?_, ?_, ?_, ?_, ?_, ?_, ?_, ?_, ?_, ?_, ?_, ?_, ?_, ?_, trivial⟩ ?_
    ·exact fun ac W hL he => stepOk_want rfl (op_load rfl (he.k 1) (loadQ (hL.cell hcq)) rfl)
    ·exact fun ac W hL he => stepOk_want rfl (op_move rfl (he.k 6))
    ·exact fun ac W hL he => stepOk_want rfl (op_nil rfl (he.g 0 14) rfl)
    ·exact fun ac W hL he => stepOk_want rfl (op_idx rfl (he.g 2 16) (he.g 1 15) (idxM hj0' hj0l) rfl)
    ·exact fun ac W hL he => stepOk_want rfl (op_load rfl (he.g 3 17) (load32 (hL.cell hc0)) rfl)
    ·exact fun ac W hL he => stepOk_want rfl (op_load rfl (he.k 2) (loadF (hL.cell hcn)) rfl)
    ·exact fun ac W hL he => stepOk_want rfl (op_load rfl (he.k 1) (loadQ (hL.cell hcq)) rfl)
    ·exact fun ac W hL he => stepOk_want rfl (op_move rfl (he.k 5))
    ·exact fun ac W hL he => stepOk_want rfl (op_binOp rfl (he.g 7 21) rfl eqg_add (addI (y := 1) (by omega) (by omega)) rfl)
    ·exact fun ac W hL he => stepOk_want rfl (op_binOp rfl (he.g 8 22) rfl eqg_rem (remN (y := 16) (by decide) (by omega) (by decide) HJ1.out) rfl)
    ·exact fun ac W hL he => stepOk_want rfl (op_nil rfl (he.g 6 20) rfl)
    ·exact fun ac W hL he => stepOk_want rfl (op_idx rfl (he.g 10 24) (he.g 9 23) (idxR hj1l) rfl)
    ·exact fun ac W hL he => stepOk_want rfl (op_load rfl (he.g 11 25) (load32 (hL.cell hc1)) rfl)
    ·intro ac W hL he; refine stepOk_want rfl ?_; have e0 : ac.eval (.tmp 19) = (.func (.func 192) #[] #[.pointer (some ⟨ns, 0, none⟩), .pointer (some ⟨np, 0, none⟩)]) := (he.g 5 19); have e1 : ac.eval (.tmp 26) = (.int .u32 ((x1).toNat : Int)) := (he.g 12 26); exact op_callV rfl e0 (by simp only [List.map_toArray, List.map_cons, List.map_nil, e1]; rfl) (enters_of Tryz.func192 (by kernel_rfl) rfl) (by rfl) ((rot_s0 x1 W (hrn.later hL)).mono fun e W' ⟨he', hb⟩ => ⟨_, he', hb ▸ Later.refl _, rfl⟩)
    ·exact fun ac W hL he => stepOk_want rfl (op_load rfl (he.k 1) (loadQ (hL.cell hcq)) rfl)
    ·exact fun ac W hL he => stepOk_want rfl (op_move rfl (he.k 5))
    ·exact fun ac W hL he => stepOk_want rfl (op_binOp rfl (he.g 15 29) rfl eqg_add (addI (y := 9) (by omega) (by omega)) rfl)
    ·exact fun ac W hL he => stepOk_want rfl (op_binOp rfl (he.g 16 30) rfl eqg_rem (remN (y := 16) (by decide) (by omega) (by decide) HJ2.out) rfl)
    ·exact fun ac W hL he => stepOk_want rfl (op_nil rfl (he.g 14 28) rfl)
    ·exact fun ac W hL he => stepOk_want rfl (op_idx rfl (he.g 18 32) (he.g 17 31) (idxR hj2l) rfl)
    ·exact fun ac W hL he => stepOk_want rfl (op_load rfl (he.g 19 33) (load32 (hL.cell hc2)) rfl)
    ·exact fun ac W hL he => stepOk_want rfl (op_binOp rfl (he.g 13 27) (he.g 20 34) eqg_add add32 rfl)
    ·exact fun ac W hL he => stepOk_want rfl (op_load rfl (he.k 3) (loadF (hL.cell hcf)) rfl)
    ·exact fun ac W hL he => stepOk_want rfl (op_load rfl (he.k 1) (loadQ (hL.cell hcq)) rfl)
    ·exact fun ac W hL he => stepOk_want rfl (op_move rfl (he.k 5))
    ·exact fun ac W hL he => stepOk_want rfl (op_binOp rfl (he.g 24 38) rfl eqg_add (addI (y := 14) (by omega) (by omega)) rfl)
    ·exact fun ac W hL he => stepOk_want rfl (op_binOp rfl (he.g 25 39) rfl eqg_rem (remN (y := 16) (by decide) (by omega) (by decide) HJ3.out) rfl)
    ·exact fun ac W hL he => stepOk_want rfl (op_nil rfl (he.g 23 37) rfl)
    ·exact fun ac W hL he => stepOk_want rfl (op_idx rfl (he.g 27 41) (he.g 26 40) (idxR hj3l) rfl)
    ·exact fun ac W hL he => stepOk_want rfl (op_load rfl (he.g 28 42) (load32 (hL.cell hc3)) rfl)
    ·intro ac W hL he; refine stepOk_want rfl ?_; have e0 : ac.eval (.tmp 36) = (.func (.func 192) #[] #[.pointer (some ⟨fs, 0, none⟩), .pointer (some ⟨fp, 0, none⟩)]) := (he.g 22 36); have e1 : ac.eval (.tmp 43) = (.int .u32 ((x3).toNat : Int)) := (he.g 29 43); exact op_callV rfl e0 (by simp only [List.map_toArray, List.map_cons, List.map_nil, e1]; rfl) (enters_of Tryz.func192 (by kernel_rfl) rfl) (by rfl) ((rot_s1 x3 W (hrf.later hL)).mono fun e W' ⟨he', hb⟩ => ⟨_, he', hb ▸ Later.refl _, rfl⟩)
    ·exact fun ac W hL he => stepOk_want rfl (op_binOp rfl (he.g 21 35) (he.g 30 44) eqg_add add32 rfl)
    ·exact fun ac W hL he => stepOk_want rfl (op_binOp rfl (he.g 4 18) (he.g 31 45) eqg_add add32 rfl)
    ·exact fun ac W hL he => stepOk_want rfl (op_nil rfl (he.g 0 14) rfl)
    ·exact fun ac W hL he => stepOk_want rfl (op_idx rfl (he.g 33 47) (he.g 1 15) (idxM hj0' hj0l) rfl)
    ·intro xs W2 hL hx hk hg
     have e1 := hg 34 48 (by decide) (by kernel_rfl)
     have e2 := hg 32 46 (by decide) (by kernel_rfl)
     have v1 : xs 34 = .pointer (some ⟨bm, j0, none⟩) := hx 34 (by decide)
     have v2 : xs 32 = wordV (x0 + (Sha.s0 x1 + x2 + Sha.s1 x3)) := hx 32 (by decide)
     rw [v1] at e1
     rw [v2, HSUM.out] at e2
     have hr2 := hr.later hL
     refine last_store rfl rfl e1 e2 (store32 (hr2.cell j0 |>.trans (ringC_get m t j0 hj0l)) (hr2.frozen j0)) ?_
     have hr3 := hr2.set j0 (wordV (Sha.M m t))
     rw [HSET.out] at hr3
     have hJ3 := HJ.out _ _ _ _ (HJ.out _ _ _ _ hJs (grown_of_below hL) (fun r e => by cases e)) (grown_set W2 bm j0 (wordV (Sha.M m t))) (fun r e => by cases e; rfl)
     have hk3 : ∀ k, S k -> (W2.setCell ⟨bm, j0, none⟩ (wordV (Sha.M m t))).heap[k]? = W2.heap[k]? := fun k hk => heap_setCell_other W2 _ _ _ (fun e => hS (by have e' : k = bm := e; rw [<- e']; exact hk))
     have ha3 : AllFn (W2.setCell ⟨bm, j0, none⟩ (wordV (Sha.M m t))) bm bq bn bf S := AllFn.keep ⟨hsq, hq.later hL, hnn.later hL, hff.later hL⟩ hk3
     have hnew := (hr3.cell j0).trans (ringC_get m (t + 1) j0 hj0l)
     rw [show Sha.ringAt m (t + 1) j0 = Sha.M m t from by rw [<- HJ0.out]; exact Sha.ringAt_new m t hge] at hnew
     clear hx hk hg e1 e2 v1 v2 hc0 hc1 hc2 hc3 hcn hcf hff hnn hrn hrf hr2 hk3
     generalize W2.setCell ⟨bm, j0, none⟩ (wordV (Sha.M m t)) = W3 at *
     simp only [initL, putL, Nat.reduceAdd, Act.put, List.setIfInBounds_toArray, List.set_cons_succ, List.set_cons_zero]
     have hcq3 : W3.cell? ⟨bq, 0, none⟩ = some (.pointer (some ⟨bm, 0, none⟩)) := (ha3.q.cell 0).trans rfl
     clear hcq
     obtain ⟨fn, tmps, assign, body, hy, hR⟩ := HY.out pre t W3 hJ3 ⟨HT.out.symm, hlt⟩
     unfold wordEnc at hy
     gi_wp2
     refine hR.mono ?_
     rintro e W5 (⟨rfl, hJ5, hk5⟩ | ⟨rfl, hJx5⟩)
     ·have hr5 := hk5.2.trans hr3
      have ha5 := AllFn.keep ha3 hk5.1
      have hln : (pre ++ [t]).length = t + 1 := by rw [List.length_append, HT.out]; rfl
      have HLN := Lib.hid hln
      clear hln hk5
      gi_wp2
      go_roundw
      case rel => exact ⟨pre ++ [t], by rw [HLN.out]; go_num, by rw [HLN.out]; omega, by rw [HLN.out]; exact hr5, ha5, hJ5⟩
      case measure => simp [intOf]; omega
     ·gi_wp2
      rw [Exit.noGoto_normal]
      go_end0
      exact ⟨⟨_, rfl⟩, .inr ⟨_, trivial, hJx5⟩⟩
   ·have hd : decide ((16 : Int) <= (t : Int)) = false := by simp; omega
    have hnew := (hr.cell j0).trans (ringC_get m t j0 hj0l)
    rw [Sha.ringAt_low m t j0 (by omega) hj0l, show j0 = t from by omega, <- Sha.M_lt m (by omega : t < 16), show t = j0 from by omega] at hnew
    rw [show Sha.M m j0 = Sha.M m t from by rw [show j0 = t from by omega]] at hnew
    have hrn := ringC_low m t (by omega)
    rw [<- hrn] at hr
    have ha0 : AllFn wr bm bq bn bf S := ⟨hsq, hq, hn, hf⟩
    clear hj0 hrn
    obtain ⟨fn, tmps, assign, body, hy, hR⟩ := HY.out pre t wr hJs ⟨HT.out.symm, hlt⟩
    unfold wordEnc at hy
    gi_wp2
    refine hR.mono ?_
    rintro e W5 (⟨rfl, hJ5, hk5⟩ | ⟨rfl, hJx5⟩)
    ·have hr5 := hk5.2.trans hr
     have ha5 := AllFn.keep ha0 hk5.1
     have hln : (pre ++ [t]).length = t + 1 := by rw [List.length_append, HT.out]; rfl
     have HLN := Lib.hid hln
     clear hln hk5
     gi_wp2
     go_roundw
     case rel => exact ⟨pre ++ [t], by rw [HLN.out]; go_num, by rw [HLN.out]; omega, by rw [HLN.out]; exact hr5, ha5, hJ5⟩
     case measure => simp [intOf]; omega
    ·gi_wp2
     rw [Exit.noGoto_normal]
     go_end0
     exact ⟨⟨_, rfl⟩, .inr ⟨_, trivial, hJx5⟩⟩
  ·obtain rfl : t = 64 := by omega
   gi_wp2
   rw [Exit.noGoto_normal]
   go_end0
   exact ⟨⟨_, rfl⟩, .inl ⟨pre, HT.out, hJs⟩⟩
end Go.Proofs.YtloiaaolnfimgaaGreat
namespace Go.Proofs.YtloiaaolnfimgaaGreat
open Go.RowKit Go.Shelf
attribute [local go_sem] Oper.semAt_some
theorem name_frame {P : Program} {c : Code} {Q : Exit -> Act -> World -> Prop} {tm : Array Value} {d : List Deferred} {w : World} (h : ∀ T, T = tm -> c.wp P Q { tmps := T, defers := d } w) : c.wp P Q { tmps := tm, defers := d } w := h tm rfl
def z16 : Array Value := Array.replicate 16 (.int .u32 0)
theorem alloc16 (w : World) : (Instr.alloc 262 true (.tuple #[])).run Tryz.prog w = .ok (.pointer (some ⟨w.heap.size, 0, none⟩)) (w.alloc (.cells z16 262)) := by kernel_rfl
def ringTo (l : List UInt8) (k : Nat) : Array Value := ((List.range 16).map fun j => if j < k then wordV (Sha.wd l j) else .int .u32 0).toArray
theorem ringTo_zero (l : List UInt8) : ringTo l 0 = z16 := by simp [ringTo, z16]; rfl
theorem ringTo_set (l : List UInt8) (k : Nat) (h : k < 16) : (ringTo l k).setIfInBounds k (wordV (Sha.wd l k)) = ringTo l (k + 1) := by
 apply Array.ext_getElem?
 intro i
 rw [Array.getElem?_setIfInBounds]
 by_cases hi : i < 16
 ·by_cases e : k = i
  ·subst e; rw [if_pos rfl, if_pos (by simp [ringTo]; omega)]; simp [ringTo, h]
  ·rw [if_neg e]
   simp only [ringTo, List.getElem?_toArray, List.getElem?_map, List.getElem?_range hi, Option.map_some]
   by_cases h3 : i < k
   ·rw [if_pos h3, if_pos (by omega)]
   ·rw [if_neg h3, if_neg (by omega)]
 ·rw [if_neg (by omega)]
  simp [ringTo, hi]
theorem ringTo_all (l : List UInt8) : ringTo l 16 = ringC (Sha.wd l) 0 := by
 unfold ringTo ringC
 apply congrArg List.toArray
 apply List.map_congr_left
 intro j hj
 have := List.mem_range.1 hj
 rw [if_pos this, Sha.ringAt_low _ _ _ (by omega) this]
theorem Rd.cut {w : World} {b o k n : Nat} {l : List UInt8} (h : Rd w (some ⟨b, o, none⟩) l) (hk : k + n <= l.length) : Rd w (some ⟨b, o + k, none⟩) ((l.drop k).take n) := fun hne => by
 have h0 : l ≠ [] := by intro e; subst e; simp at hne
 obtain ⟨b', o', e, hc⟩ := h h0
 injection e with e
 injection e with e1 e2
 subst e1 e2
 refine ⟨b, o + k, rfl, fun i hi => ?_⟩
 rw [List.length_take, List.length_drop] at hi
 rw [List.getElem_take, List.getElem_drop, Nat.add_assoc]
 exact hc (k + i) (by omega)
def stC (x : Sha.St) (t : Nat) : Array Value := ((List.range 8).map fun j => wordV (x.get ((j + t) % 8))).toArray
theorem stC_get (x : Sha.St) (t j : Nat) (h : j < 8) : (stC x t)[j]? = some (.int .u32 ((x.get ((j + t) % 8)).toNat : Int)) := by simp [stC, h]
def z8 : Array Value := Array.replicate 8 (.int .u32 0)
theorem alloc8 (w : World) : (Instr.alloc 195 true (.tuple #[])).run Tryz.prog w = .ok (.pointer (some ⟨w.heap.size, 0, none⟩)) (w.alloc (.cells z8 195)) := by kernel_rfl
theorem info8 : (Tryz.prog.info? 195).map (·.size) = some 8 := by kernel_rfl
theorem stC_zero (x : Sha.St) : (x.list.map wordV).toArray = stC x 0 := rfl
theorem stC_size (x : Sha.St) (t : Nat) : (stC x t).size = 8 := by simp [stC]
theorem stC_one (x : Sha.St) (t : Nat) : (stC x t).all (·.oneCell') = true := by
 rw [Array.all_eq_true_iff_forall_mem]
 intro v hv
 unfold stC at hv
 rw [List.mem_toArray] at hv
 obtain ⟨i, hi, rfl⟩ := List.mem_map.1 hv
 rfl
theorem storeS (x : Sha.St) (w : World) : (Instr.storeAt 195 (.pointer (some ⟨w.heap.size, 0, none⟩)) (.agg (stC x 0))).run Tryz.prog (w.alloc (.cells z8 195)) = .ok () (w.alloc (.cells (stC x 0) 195)) :=
 run_storeAt_new w 195 z8 (stC x 0) (by rw [stC_size]; exact info8) (by rw [stC_size]; simp [z8]) (stC_one x 0)
theorem loadS {w : World} {g o : Nat} {T : TypeId} {cs : Array Value} {x : Sha.St} (hrow : Row w g T cs) (hx : ∀ i, i < 8 -> cs[o + i]? = some (wordV (x.get i))) : (Instr.loadAt 195 (.pointer (some ⟨g, o, none⟩))).run Tryz.prog w = .ok (.agg (stC x 0)) w := by
 rw [<- stC_zero]
 refine run_loadAt_mid w g o 195 (x.list.map wordV) _ (hrow.range o _ fun j v hv => ?_) Tryz.underlying195 rfl (by rw [show (x.list.map wordV).length = 8 from rfl]; exact info8)
 have hj : j < 8 := by
  rcases Nat.lt_or_ge j 8 with h | h
  ·exact h
  ·rw [List.getElem?_eq_none (by simp [Sha.St.list]; omega)] at hv; cases hv
 rw [hx j hj, <- hv]
 have : ∀ j : Fin 8, some (wordV (x.get j.val)) = (x.list.map wordV)[j.val]? := by
  intro j
  match j with
  | 0 => rfl
  | 1 => rfl
  | 2 => rfl
  | 3 => rfl
  | 4 => rfl
  | 5 => rfl
  | 6 => rfl
  | 7 => rfl
 exact this ⟨j, hj⟩
end Go.Proofs.YtloiaaolnfimgaaGreat
namespace Go.Proofs.YtloiaaolnfimgaaGreat
open Go.RowKit Go.Shelf
theorem st_cell {W : World} {bx : Nat} {s : Sha.St} {t i j : Nat} (hrow : Row W bx 195 (stC s t)) (hi : i < 8) (ht : t < 64) (hj : ((i : Int) + 64 - (t : Int)) % 8 = (j : Int)) : W.cell? ⟨bx, j, none⟩ = some (.int .u32 ((s.get i).toNat : Int)) := by
 have hj8 : j < 8 := by omega
 rw [hrow.cell, stC_get s t j hj8, show (j + t) % 8 = i from by omega]
theorem st_next (s : Sha.St) (t j3 j7 : Nat) (ht : t < 64) (k w : BitVec 32) (h3 : ((3 : Int) + 64 - (t : Int)) % 8 = (j3 : Int)) (h7 : ((7 : Int) + 64 - (t : Int)) % 8 = (j7 : Int)) :
  ((stC s t).setIfInBounds j3 (wordV (Sha.rnd k w s).e)).setIfInBounds j7 (wordV (Sha.rnd k w s).a) = stC (Sha.rnd k w s) (t + 1) := by
 apply Array.ext_getElem?
 intro i
 rw [Array.getElem?_setIfInBounds, Array.getElem?_setIfInBounds]
 have hs : (stC s t).size = 8 := stC_size s t
 by_cases hi : i < 8
 ·rw [stC_get (Sha.rnd k w s) (t + 1) i hi]
  by_cases e7 : j7 = i
  ·subst e7
   rw [if_pos rfl, if_pos (by simp [hs]; omega), show (j7 + (t + 1)) % 8 = 0 from by omega]
   rfl
  ·rw [if_neg e7]
   by_cases e3 : j3 = i
   ·subst e3
    rw [if_pos rfl, if_pos (by omega), show (j3 + (t + 1)) % 8 = 4 from by omega]
    rfl
   ·rw [if_neg e3, stC_get s t i hi]
    obtain ⟨v, hv⟩ : ∃ v, (i + t) % 8 = v := ⟨_, rfl⟩
    have hv8 : v < 8 := by omega
    have h0 : v ≠ 3 := by omega
    have h1 : v ≠ 7 := by omega
    rw [hv, show (i + (t + 1)) % 8 = v + 1 from by omega]
    have : ∀ v : Fin 8, v.val ≠ 3 -> v.val ≠ 7 -> s.get v.val = (Sha.rnd k w s).get (v.val + 1) := by
     intro v
     match v with
     | 0 => intro _ _; rfl
     | 1 => intro _ _; rfl
     | 2 => intro _ _; rfl
     | 3 => intro h _; exact absurd rfl h
     | 4 => intro _ _; rfl
     | 5 => intro _ _; rfl
     | 6 => intro _ _; rfl
     | 7 => intro _ h; exact absurd rfl h
    rw [this ⟨v, hv8⟩ h0 h1]
 ·rw [if_neg (by omega), if_neg (by omega), Array.getElem?_eq_none (by omega), Array.getElem?_eq_none (by rw [stC_size]; omega)]
theorem later_grown {X Y : World} (h : Later X Y) (r : Nat) : X.grownBy Y (some r) := ⟨h.os, h.tape, h.output, h.size, fun k hk _ => h.block k hk⟩
theorem stab_held {β : Type} {bm bx : Nat} {w0 : World} : Stab w0.heap.size (fun r => r = bm) (fun (_ : β) W => Held bm bx w0 W) := fun _ X Y row hs hg hr => hs.grown hg (fun r e => by
 rcases hr r e with h | ⟨h, _⟩
 ·exact .inl h
 ·exact .inr (.inr h))
theorem idxK {b j : Nat} {W : World} (h : j < 64) : (Instr.indexAt 231 (.pointer (some ⟨b, 0, none⟩)) (.int .i64 (j : Int))).run Tryz.prog W = .ok (.pointer (some ⟨b, j, none⟩)) W := by
 have h1 : (j : Int) < 64 := by omega
 have h2 : (0 : Int) <= (j : Int) := by omega
 go_simp
theorem info39 : (Tryz.prog.info? 174).map (fun i => (i.zero, i.size, i.bytes)) = some (some (.int .u32 0), 1, 4) := by kernel_rfl
theorem idxAgg {cs : Array Value} {k : Nat} {v : Value} {W : World} (hk : k < 8) (h : cs[k]? = some v) : (Instr.index 195 (.agg cs) (.int .i64 (k : Int))).run Tryz.prog W = .ok v W := by
 have h1 : (k : Int) < 8 := by omega
 have h2 : (0 : Int) <= (k : Int) := by omega
 obtain ⟨i, hi0, hz, hs, hb⟩ := info_parts info39
 simp [Instr.index, run_underlying Tryz.underlying195, asIntOf, h1, h2, sizeOf, typeInfo, hi0, hs]
 rw [if_pos hk]
 have h' : cs[k]?.getD undef = v := by rw [h]; rfl
 simp [part, go_sem, sizeOf, typeInfo, hi0, hs, h, h']
theorem setFrom_snoc (vs : List Value) (v : Value) : ∀ (o : Nat) (cs : Array Value), setFrom cs o (vs ++ [v]) = (setFrom cs o vs).setIfInBounds (o + vs.length) v := by
 induction vs with
 | nil => intro o cs; rfl
 | cons x vs ih =>
  intro o cs
  rw [List.cons_append, setFrom, setFrom, ih, List.length_cons, show o + 1 + vs.length = o + (vs.length + 1) from by omega]
def stTo (cs : Array Value) (o : Nat) (z : Sha.St) (k : Nat) : Array Value := setFrom cs o ((z.list.map wordV).take k)
theorem list_get (z : Sha.St) (k : Nat) (h : k < 8) : (z.list.map wordV)[k]? = some (wordV (z.get k)) := by
 have : ∀ k : Fin 8, (z.list.map wordV)[k.val]? = some (wordV (z.get k.val)) := by
  intro k
  match k with
  | 0 => rfl
  | 1 => rfl
  | 2 => rfl
  | 3 => rfl
  | 4 => rfl
  | 5 => rfl
  | 6 => rfl
  | 7 => rfl
 exact this ⟨k, h⟩
theorem stTo_succ (cs : Array Value) (o : Nat) (z : Sha.St) (k : Nat) (h : k < 8) : stTo cs o z (k + 1) = (stTo cs o z k).setIfInBounds (o + k) (wordV (z.get k)) := by
 have hl : (z.list.map wordV).length = 8 := rfl
 have hg := list_get z k h
 rw [List.getElem?_eq_getElem (by omega)] at hg
 unfold stTo
 rw [List.take_succ_eq_append_getElem (by omega), setFrom_snoc, List.length_take, Option.some.inj hg]
 congr 1
 omega
theorem stTo_get (cs : Array Value) (o : Nat) (z : Sha.St) (k i : Nat) (hk : k <= i) (hi : i < 8) (hs : o + 8 <= cs.size) : (stTo cs o z k)[o + i]? = cs[o + i]? := by
 unfold stTo
 rw [setFrom_get _ _ _ _ (by rw [List.length_take]; have : (z.list.map wordV).length = 8 := rfl; omega), if_neg]
 rw [List.length_take]; omega
theorem st_add_get (x y : Sha.St) (k : Nat) : (x.add y).get k = x.get k + y.get k := by
 match k with
 | 0 => rfl
 | 1 => rfl
 | 2 => rfl
 | 3 => rfl
 | 4 => rfl
 | 5 => rfl
 | 6 => rfl
 | _ + 7 => rfl
theorem st_eight (y : Sha.St) (i : Nat) (h : i < 8) : (stC y 64)[0 + i]? = some (wordV (y.get i)) := by
 rw [Nat.zero_add, stC_get y 64 i h, show (i + 64) % 8 = i from by omega]
theorem fieldP {b o : Nat} {W : World} : (Instr.fieldAt 251 (.pointer (some ⟨b, o, none⟩)) 0).run Tryz.prog W = .ok (.pointer (some ⟨b, o, none⟩)) W := by
 go_simp
theorem idxS {b o j : Nat} {W : World} (h : j < 8) : (Instr.indexAt 195 (.pointer (some ⟨b, o, none⟩)) (.int .i64 (j : Int))).run Tryz.prog W = .ok (.pointer (some ⟨b, o + j, none⟩)) W := by
 have h1 : (j : Int) < 8 := by omega
 have h2 : (0 : Int) <= (j : Int) := by omega
 go_simp
end Go.Proofs.YtloiaaolnfimgaaGreat
namespace Go.Proofs.YtloiaaolnfimgaaGreat
open Go.RowKit Go.Shelf
attribute [local go_sem] Oper.semAt_some
theorem block_any (g o : Nat) (T : TypeId) (cs : Array Value) (x : Sha.St) (A : Option Addr) (c : Nat) (l : List UInt8) (w : World) (hl : l.length = 64) (hcap : 64 <= c) (hmx : c <= 9223372036854775807) (hr : Rd w A l) (hrow : Row w g T cs) (hx : ∀ i, i < 8 -> cs[o + i]? = some (wordV (x.get i))) :
  Calls Tryz.prog 176 #[.pointer (some ⟨g, o, none⟩), .slice A 64 c] w fun e w' => e = .returned (.tuple #[]) /\ Row w' g T (setFrom cs o ((Sha.blk x l).list.map wordV)) /\ w.grownBy w' (some g) := by
 obtain ⟨b, ob, rfl, h0'⟩ := hr.at_ (k := 0) (by omega)
 clear h0'
 have hz := ringTo_zero l
 have HZ := Lib.hid hz
 have HL := Lib.hid hl
 have HX := Lib.hid hx
 clear hz hl hx
 refine (callsIn_wide (n := 6)).1 ?_
 refine callsIn_of_wp_marks Tryz.func176 rfl trivial ?_ rfl
 simp only [Tryz.ntmps176, List.size_toArray, List.length_cons, List.length_nil, Nat.reduceAdd, Nat.reduceSub, Array.replicate_succ, Array.replicate_zero, List.push_toArray, List.append_toArray, List.nil_append, List.cons_append]
 refine wpIn_wide.2 ?_
 go_wp2_with (first
  | (with_reducible refine wpList_alloc rfl 262 rfl (alloc16 _) ?_))
 go_loopw [5, 22] (fun _ t wr => ∃ k : Nat, k <= 16 /\ t = .int .i64 k /\ Row wr w.heap.size 262 (ringTo l k) /\ Below w.heap.size w wr) (fun _ t _ => 16 - (intOf t).toNat)
 case atStart => exact ⟨0, by omega, rfl, by rw [HZ.out]; exact Row.new w _ _, below_new _ _⟩
 case round =>
  obtain ⟨k, hk, rfl, hrk, hb⟩ := hrel
  by_cases hlt : k < 16
  ·have hrk1 := (hr.below hb).cut (k := 4 * k) (n := 4) (by rw [HL.out]; omega)
   have hn4 : ((l.drop (4 * k)).take 4).length = 4 := by rw [List.length_take, List.length_drop, HL.out]; omega
   have hw : Sha.be ((l.drop (4 * k)).take 4) = Sha.wd l k := rfl
   have hset := ringTo_set l k hlt
   have HW := Lib.hid hw
   have HSET := Lib.hid hset
   have H4 := Lib.hid hn4
   have hck : wr.cell? ⟨w.heap.size, k, none⟩ = some ((ringTo l k)[k]'(by simp [ringTo]; exact hlt)) := (hrk.cell k).trans (Array.getElem?_eq_getElem _)
   have hfk := hrk.frozen k
   generalize (ringTo l k)[k]'(by simp [ringTo]; exact hlt) = vk at *
   clear hw hset hn4
   go_wp2_with fail
   refine (number_any _ 4 _ _ wr H4.out (by omega) hrk1).mono ?_
   rintro e w' ⟨rfl, rfl⟩
   rw [HW.out]
   go_wp2_with fail
   go_roundw
   case rel => exact ⟨k + 1, by omega, by go_num, by rw [<- HSET.out]; exact hrk.set k _, hb.setCell (p := ⟨w.heap.size, k, none⟩) (Nat.le_refl _) _⟩
   case measure => simp [intOf]; omega
  ·obtain rfl : k = 16 := by omega
   rw [ringTo_all] at hrk
   have hLr : Later w wr := hb
   clear hb HZ hcap
   go_upto_region 6 with fail
   go_cut [6] from 6 to 36 (fun v W => ∃ bk, v = .pointer (some ⟨bk, 0, none⟩) /\ Row W bk 231 kCells /\ wr.heap.size <= bk /\ Later wr W)
   case first =>
    go_wp2_with fail
    refine (constants_any _).mono ?_
    rintro e w1 ⟨rfl, hb1⟩
    go_wp2_with (first
     | (with_reducible refine wpList_alloc rfl 231 rfl (alloc64 _) ?_)
     | (refine wpList_store rfl 231 (.tmp 6) (.tmp 36) rfl (.pointer (some ⟨w1.heap.size, 0, none⟩)) (.agg kCells) rfl rfl (storeK _) ?_))
    go_meet
    exact ⟨w1.heap.size, rfl, Row.new w1 _ _, hb1.size, ((Later.refl wr).call hb1).alloc _⟩
   case rest =>
    obtain ⟨bk, rfl, hbk, hbk0, hLk⟩ := hcut
    go_upto_region 7 with fail
    obtain ⟨wk, rfl⟩ : ∃ y, y = wc := ⟨_, rfl⟩
    go_cut [7, 8] from 7 to 40 (fun p q W => ∃ b7 b8, p = .pointer (some ⟨b7, 0, none⟩) /\ q = .pointer (some ⟨b8, 0, none⟩) /\ IsFn W b7 32 [2, 13, 22] (fun k => wk.heap.size <= k) /\ IsFn W b8 32 [6, 11, 25] (fun k => wk.heap.size <= k) /\ Later wk W)
    case first =>
     go_wp2_with (first | (go_at_call 188; refine (rotations_any _ _ _ _).mono ?_; rintro e w' ⟨rfl, rfl⟩))
     go_meet
     refine ⟨_, _, rfl, rfl, ⟨_, wk.heap.size + 1, wk.heap.size + 1 + 1, wk.heap.size, ?_, ⟨rfl, ?_, ?_, ?_⟩, ?_, ?_, ?_, ?_⟩, ⟨_, wk.heap.size + 1 + 1 + 1 + 1, wk.heap.size + 1 + 1 + 1 + 1 + 1, wk.heap.size + 1 + 1 + 1, ?_, ⟨rfl, ?_, ?_, ?_⟩, ?_, ?_, ?_, ?_⟩, ?_⟩
     all_goals first
      | omega
      | ((repeat (first | (refine Row.newAt ?_; simp only [World.size_alloc]; done) | refine Row.alloc ?_ _)); done)
      | ((repeat (first | exact Later.refl _ | refine Later.alloc ?_ _)); done)
    case rest =>
     obtain ⟨b7, b8, rfl, rfl, h7, h8, hL8⟩ := hcut
     go_upto_region 8 with fail
     obtain ⟨wn, rfl⟩ : ∃ y, y = wc := ⟨_, rfl⟩
     have hL0 : Later w wn := ((hLr.step hLk).step hL8)
     have hrow8 := hrow.later hL0
     go_cut [9] from 9 to 44 (fun p W => ∃ bx, p = .pointer (some ⟨bx, 0, none⟩) /\ Row W bx 195 (stC x 0) /\ wn.heap.size <= bx /\ Later wn W)
     case first =>
      go_wp2_with (first
       | (refine wpList_load rfl 195 (.tmp 43) rfl (.pointer (some ⟨g, o, none⟩)) rfl (loadS hrow8 HX.out) ?_)
       | (with_reducible refine wpList_alloc rfl 195 rfl (alloc8 _) ?_)
       | (refine wpList_store rfl 195 (.tmp 9) (.tmp 44) rfl (.pointer (some ⟨wn.heap.size, 0, none⟩)) (.agg (stC x 0)) rfl rfl (storeS x _) ?_))
      go_meet
      exact ⟨_, rfl, Row.new wn _ _, Nat.le_refl _, (Later.refl wn).alloc _⟩
     case rest =>
      obtain ⟨bx, rfl, hbx, hbx0, hLx⟩ := hcut
      obtain ⟨wx, rfl⟩ : ∃ y, y = wc := ⟨_, rfl⟩
      go_wp2_with (first | (go_at_call 189; refine (all_any _ _).mono ?_; rintro e wf ⟨bq, bn, bf, rfl, hall, hba⟩))
      obtain ⟨bm, hbm⟩ : ∃ y, y = w.heap.size := ⟨_, rfl⟩
      rw [<- hbm] at hrk hall ⊢
      have hs0 := hrk.lt
      have hs1 := hLk.size
      have hs2 := hL8.size
      have hs3 := hLx.size
      have hs4 := Below.size hba
      have hs5 := hbx.lt
      have hs6 := hbk.lt
      have hs7 := hrow.lt
      have hLf : Later wn wf := hLx.step hba
      have hrm : Row wf bm 262 (ringC (Sha.wd l) 0) := hrk.later ((hLk.step hL8).step hLf)
      have hrk2 : Row wf bk 231 kCells := hbk.later (hL8.step hLf)
      have hrx2 : Row wf bx 195 (stC x 0) := hbx.later hba
      have hrg : Row wf g T cs := hrow.later (hL0.step hLf)
      obtain ⟨S, hSd⟩ : ∃ S : Nat -> Prop, S = fun k => k ≠ bm /\ k ≠ bx /\ k < wf.heap.size := ⟨_, rfl⟩
      have HBM := Lib.hid hbm
      have hSi : ∀ k, k ≠ bm -> k ≠ bx -> k < wf.heap.size -> S k := fun k a b c => by rw [hSd]; exact ⟨a, b, c⟩
      have hSo : ∀ k, S k -> k ≠ bm /\ k ≠ bx /\ k < wf.heap.size := fun k h => by rw [hSd] at h; exact h
      have h7s : IsFn wf b7 32 [2, 13, 22] S := (h7.sub fun k a b => hSi k (by omega) (by omega) (by omega)).later hLf
      have h8s : IsFn wf b8 32 [6, 11, 25] S := (h8.sub fun k a b => hSi k (by omega) (by omega) (by omega)).later hLf
      have halS : AllFn wf bm bq bn bf S := ⟨hSi _ (by have := hall.sq; omega) (by have := hall.sq; omega) hall.q.lt, hall.q, hall.n.sub fun k a b => hSi k (by omega) (by omega) b, hall.f.sub fun k a b => hSi k (by omega) (by omega) b⟩
      have hkm : bk ≠ bm := by omega
      have hkx : bk ≠ bx := by omega
      have hgm : g ≠ bm := by omega
      have hgx : g ≠ bx := by omega
      have hmx : bx ≠ bm := by omega
      have hLw : Later w wf := hL0.step hLf
      have HLW := Lib.hid hLw
      have HBML := Lib.hid hrm.lt
      have HS := Lib.hid (And.intro hs5 (And.intro hs6 hs7))
      clear hbm hSd h7 h8 hall hrk hbk hbx hrow hrow8 hL0 hLr hLk hL8 hLx hba hLf hLw hr
      refine name_frame fun T0 hT0 => ?_
      refine (wpIn_wide (n := 6)).1 ?_
      refine wpIn_range_C rfl (by omega) (gf := 193) (lb := #[.pointer (some ⟨bq, 0, none⟩), .pointer (some ⟨bn, 0, none⟩), .pointer (some ⟨bf, 0, none⟩)]) (by rw [hT0]; rfl) trivial (enters_of Tryz.func193 (by kernel_rfl) rfl)
       (all1_seq (Sha.wd l) bm bq bn bf S (fun h => (hSo _ h).1 rfl) wf 5 (by omega) hrm halS) (fun r e => by rw [e]; exact hrm.lt) (fun h k => h.trans k) (fun W l' o' hl' => ⟨fun k hk => World.putObj_heap_other (by have := (hSo k hk).2.2; omega), World.putObj_heap_other (by have := hrm.lt; omega)⟩) (Below.refl _ _) (fun _ => rfl)
       (fun pre W => Row W bx 195 (stC (Sha.rs x (Sha.wd l) pre.length) pre.length) /\ Held bm bx wf W) (fun _ _ _ => False)
       ((stab_block (B := wf.heap.size) (b := bx) (C := fun r => r = bm) (fun e => hmx e) (fun pre : List Nat => stC (Sha.rs x (Sha.wd l) pre.length) pre.length) 195).and stab_held) (fun _ => stab_false _ _) ⟨hrx2, Held.refl _ _ _⟩
       (fun _ t a' W => ∃ bt, a' = { tmps := (((T0.setIfInBounds 46 (.int .i64 (t : Int))).setIfInBounds 47 (.int .u32 ((Sha.M (Sha.wd l) t).toNat : Int))).setIfInBounds 10 (.pointer (some ⟨bt, 0, none⟩))).setIfInBounds 11 (.int .u32 ((Sha.M (Sha.wd l) t).toNat : Int)), defers := [] } /\ Row W bt 3 #[intV t] /\ wf.heap.size <= bt)
       (fun pre t a' s' X Y row hs hg hr => by
        obtain ⟨bt, h1, h2, h3⟩ := hs
        exact ⟨bt, h1, h2.grown hg (fun e => by
         rcases hr bt e.symm with h | ⟨_, ob', ho', hc'⟩
         ·have := hrm.lt; omega
         ·rw [show X.heap[bt]? = _ from h2] at ho'; cases ho'; cases hc'), h3⟩) ?assign ?body ?done ?stop
      case assign =>
       intro l0 pre t W K hi hok hK
       have HK := Lib.hid hK
       have HI := Lib.hid hi
       have hlw : wf.heap.size <= W.heap.size := hi.2.size
       clear hK hi hok
       rw [hT0]
       unfold wordEnc
       gi_wp2
       refine HK.out _ _ (KeepsFrom.of_grownBy (World.grownBy_alloc _ _ none) (fun j e => by cases e)) ⟨fun k hk => Below.heap_alloc W _ k (by have := (hSo k hk).2.2; omega), Below.heap_alloc W _ bm (by have := hrm.lt; omega)⟩ ⟨HI.out.1.alloc _, HI.out.2.grown (World.grownBy_alloc _ _ none) (fun r e => by cases e)⟩ ⟨W.heap.size, ?_, Row.new _ _ _, hlw⟩
       rw [hT0]
       rfl
      case body =>
       rintro l0 pre t a' W hl hlo ⟨hrx, hh⟩ ⟨ht, hlt⟩ ⟨bt, rfl, hbt, hbt0⟩
       rw [<- ht] at hrx
       have hk7 : ∀ k, S k -> W.heap[k]? = wf.heap[k]? := fun k hk => hh.block k (hSo k hk).2.2 (hSo k hk).1 (hSo k hk).2.1
       have h7w := h7s.keep hk7
       have h8w := h8s.keep hk7
       have hkw : Row W bk 231 kCells := (hk7 bk (hSi bk hkm hkx hrk2.lt)).trans hrk2
       have hct : W.cell? ⟨bt, 0, none⟩ = some (.int .i64 (t : Int)) := (hbt.cell 0).trans rfl
       have hck := (hkw.cell t).trans (kCells_get t hlt)
       obtain ⟨lv, ls, lp, ll, hlr, hrl, hlS⟩ := h7w
       obtain ⟨hv, hs, hp, hll, hhr, hrh, hhS⟩ := h8w
       have hc7f := (hlr.cell 0).trans (rfl : _ = some lv)
       have hc8f := (hhr.cell 0).trans (rfl : _ = some hv)
       rw [hrl.val] at hc7f
       rw [hrh.val] at hc8f
       have hbtx : bt ≠ bx := by have := HS.out.1; omega
       have hnext : Sha.rs x (Sha.wd l) (t + 1) = Sha.rnd (Sha.kc t) (Sha.M (Sha.wd l) t) (Sha.rs x (Sha.wd l) t) := rfl
       obtain ⟨j0, hj0⟩ : ∃ j : Nat, ((0 : Int) + 64 - (t : Int)) % 8 = (j : Int) := ⟨(((0 : Int) + 64 - (t : Int)) % 8).toNat, by omega⟩
       obtain ⟨j1, hj1⟩ : ∃ j : Nat, ((1 : Int) + 64 - (t : Int)) % 8 = (j : Int) := ⟨(((1 : Int) + 64 - (t : Int)) % 8).toNat, by omega⟩
       obtain ⟨j2, hj2⟩ : ∃ j : Nat, ((2 : Int) + 64 - (t : Int)) % 8 = (j : Int) := ⟨(((2 : Int) + 64 - (t : Int)) % 8).toNat, by omega⟩
       obtain ⟨j3, hj3⟩ : ∃ j : Nat, ((3 : Int) + 64 - (t : Int)) % 8 = (j : Int) := ⟨(((3 : Int) + 64 - (t : Int)) % 8).toNat, by omega⟩
       obtain ⟨j4, hj4⟩ : ∃ j : Nat, ((4 : Int) + 64 - (t : Int)) % 8 = (j : Int) := ⟨(((4 : Int) + 64 - (t : Int)) % 8).toNat, by omega⟩
       obtain ⟨j5, hj5⟩ : ∃ j : Nat, ((5 : Int) + 64 - (t : Int)) % 8 = (j : Int) := ⟨(((5 : Int) + 64 - (t : Int)) % 8).toNat, by omega⟩
       obtain ⟨j6, hj6⟩ : ∃ j : Nat, ((6 : Int) + 64 - (t : Int)) % 8 = (j : Int) := ⟨(((6 : Int) + 64 - (t : Int)) % 8).toNat, by omega⟩
       obtain ⟨j7, hj7⟩ : ∃ j : Nat, ((7 : Int) + 64 - (t : Int)) % 8 = (j : Int) := ⟨(((7 : Int) + 64 - (t : Int)) % 8).toNat, by omega⟩
       obtain ⟨s, hs⟩ : ∃ s, Sha.rs x (Sha.wd l) t = s := ⟨_, rfl⟩
       obtain ⟨mw, hmw⟩ : ∃ s, Sha.M (Sha.wd l) t = s := ⟨_, rfl⟩
       rw [hs] at hrx hnext
       rw [hmw] at hnext ⊢
       have hc0 := st_cell (i := 0) hrx (by decide) hlt hj0
       have hc1 := st_cell (i := 1) hrx (by decide) hlt hj1
       have hc2 := st_cell (i := 2) hrx (by decide) hlt hj2
       have hc4 := st_cell (i := 4) hrx (by decide) hlt hj4
       have hc5 := st_cell (i := 5) hrx (by decide) hlt hj5
       have hc6 := st_cell (i := 6) hrx (by decide) hlt hj6
       have hc7 := st_cell (i := 7) hrx (by decide) hlt hj7
       have hc3 := st_cell (i := 3) hrx (by decide) hlt hj3
       change _ = some (Value.int .u32 (s.a.toNat : Int)) at hc0
       change _ = some (Value.int .u32 (s.b.toNat : Int)) at hc1
       change _ = some (Value.int .u32 (s.c.toNat : Int)) at hc2
       change _ = some (Value.int .u32 (s.d.toNat : Int)) at hc3
       change _ = some (Value.int .u32 (s.e.toNat : Int)) at hc4
       change _ = some (Value.int .u32 (s.f.toNat : Int)) at hc5
       change _ = some (Value.int .u32 (s.g.toNat : Int)) at hc6
       change _ = some (Value.int .u32 (s.h.toNat : Int)) at hc7
       have hst := st_next s t j3 j7 hlt (Sha.kc t) mw hj3 hj7
       have HNEXT := Lib.hid hnext
       have HSTEP := Lib.hid hst
       have HT := Lib.hid ht
       have HLO := Lib.hid hlo
       have HK7 := Lib.hid hk7
       clear hnext hst ht hs hmw hlo hk7 hlr hhr hhS hkw hrm hrk2 hrx2 hrg h7s h8s halS
       rw [hT0]
       clear hT0
       simp only [List.setIfInBounds_toArray, List.set_cons_succ, List.set_cons_zero]
       gi_wp2
       refine wpIn_region_vals (wide_round l0) [Pr.eq (.func (.func 190) #[] #[.pointer (some ⟨bx, 0, none⟩), .pointer (some ⟨bt, 0, none⟩)]), Pr.eq (.pointer (some ⟨bx, j0, none⟩)), Pr.eq (.pointer (some ⟨bx, j0, none⟩)), Pr.eq (.int .u32 ((s.a).toNat : Int)), Pr.eq (.func (.func 190) #[] #[.pointer (some ⟨bx, 0, none⟩), .pointer (some ⟨bt, 0, none⟩)]), Pr.eq (.pointer (some ⟨bx, j1, none⟩)), Pr.eq (.pointer (some ⟨bx, j1, none⟩)), Pr.eq (.int .u32 ((s.b).toNat : Int)), Pr.eq (.func (.func 190) #[] #[.pointer (some ⟨bx, 0, none⟩), .pointer (some ⟨bt, 0, none⟩)]), Pr.eq (.pointer (some ⟨bx, j2, none⟩)), Pr.eq (.pointer (some ⟨bx, j2, none⟩)), Pr.eq (.int .u32 ((s.c).toNat : Int)), Pr.eq (.int .u32 ((s.a).toNat : Int)), Pr.eq (.int .u32 ((s.b).toNat : Int)), Pr.eq (.int .u32 ((s.c).toNat : Int))] (by kernel_rfl) (by kernel_rfl) (by kernel_rfl) (by kernel_rfl) (by kernel_rfl) ⟨?_, ?_, ?_, ?_, ?_, ?_, ?_, ?_, ?_, ?_, ?_, ?_, ?_, ?_, ?_, trivial⟩ ?_
       ·exact fun ac W hL he => stepOk_want rfl (op_move rfl (he.k 12))
       ·intro ac W hL he; refine stepOk_want rfl ?_; have e0 : ac.eval (.tmp 49) = (.func (.func 190) #[] #[.pointer (some ⟨bx, 0, none⟩), .pointer (some ⟨bt, 0, none⟩)]) := (he.g 0 49); exact op_callV (vs := #[.int .i64 0]) rfl e0 (by simp only [List.map_toArray, List.map_cons, List.map_nil]; rfl) (enters_of Tryz.func190 (by kernel_rfl) rfl) (by rfl) ((at_any 0 t j0 bx bt W (by decide) (by decide) hlt hj0 (hL.cell hct)).mono fun e W' ⟨he', hb⟩ => ⟨_, he', hb ▸ Later.refl _, rfl⟩)
       ·exact fun ac W hL he => stepOk_want rfl (op_nil rfl (he.g 1 50) rfl)
       ·exact fun ac W hL he => stepOk_want rfl (op_load rfl (he.g 2 51) (load32 (hL.cell hc0)) rfl)
       ·exact fun ac W hL he => stepOk_want rfl (op_move rfl (he.k 12))
       ·intro ac W hL he; refine stepOk_want rfl ?_; have e0 : ac.eval (.tmp 53) = (.func (.func 190) #[] #[.pointer (some ⟨bx, 0, none⟩), .pointer (some ⟨bt, 0, none⟩)]) := (he.g 4 53); exact op_callV (vs := #[.int .i64 1]) rfl e0 (by simp only [List.map_toArray, List.map_cons, List.map_nil]; rfl) (enters_of Tryz.func190 (by kernel_rfl) rfl) (by rfl) ((at_any 1 t j1 bx bt W (by decide) (by decide) hlt hj1 (hL.cell hct)).mono fun e W' ⟨he', hb⟩ => ⟨_, he', hb ▸ Later.refl _, rfl⟩)
       ·exact fun ac W hL he => stepOk_want rfl (op_nil rfl (he.g 5 54) rfl)
       ·exact fun ac W hL he => stepOk_want rfl (op_load rfl (he.g 6 55) (load32 (hL.cell hc1)) rfl)
       ·exact fun ac W hL he => stepOk_want rfl (op_move rfl (he.k 12))
       ·intro ac W hL he; refine stepOk_want rfl ?_; have e0 : ac.eval (.tmp 57) = (.func (.func 190) #[] #[.pointer (some ⟨bx, 0, none⟩), .pointer (some ⟨bt, 0, none⟩)]) := (he.g 8 57); exact op_callV (vs := #[.int .i64 2]) rfl e0 (by simp only [List.map_toArray, List.map_cons, List.map_nil]; rfl) (enters_of Tryz.func190 (by kernel_rfl) rfl) (by rfl) ((at_any 2 t j2 bx bt W (by decide) (by decide) hlt hj2 (hL.cell hct)).mono fun e W' ⟨he', hb⟩ => ⟨_, he', hb ▸ Later.refl _, rfl⟩)
       ·exact fun ac W hL he => stepOk_want rfl (op_nil rfl (he.g 9 58) rfl)
       ·exact fun ac W hL he => stepOk_want rfl (op_load rfl (he.g 10 59) (load32 (hL.cell hc2)) rfl)
       ·exact fun ac W hL he => stepOk_want rfl (op_assign rfl (he.g 3 52))
       ·exact fun ac W hL he => stepOk_want rfl (op_assign rfl (he.g 7 56))
       ·exact fun ac W hL he => stepOk_want rfl (op_assign rfl (he.g 11 60))
       ·intro xs W1 hL1 hx
        have h12 : xs 12 = wordV s.a := hx 12 (by decide)
        have h13 : xs 13 = wordV s.b := hx 13 (by decide)
        have h14 : xs 14 = wordV s.c := hx 14 (by decide)
        clear hx
        simp only [putL, Nat.reduceAdd, Act.put, List.setIfInBounds_toArray, List.set_cons_succ, List.set_cons_zero, h12, h13, h14]
        clear h12 h13 h14
        replace hrx := hrx.later hL1
        replace hct := hL1.cell hct
        replace hc3 := hL1.cell hc3
        replace hc4 := hL1.cell hc4
        replace hc5 := hL1.cell hc5
        replace hc6 := hL1.cell hc6
        replace hc7 := hL1.cell hc7
        replace hc7f := hL1.cell hc7f
        replace hc8f := hL1.cell hc8f
        replace hck := hL1.cell hck
        replace hrl := hrl.later hL1
        replace hrh := hrh.later hL1
        clear hc0 hc1 hc2
        gi_wp2
        refine wpIn_region_vals (wide_round l0) [Pr.eq (.func (.func 190) #[] #[.pointer (some ⟨bx, 0, none⟩), .pointer (some ⟨bt, 0, none⟩)]), Pr.eq (.pointer (some ⟨bx, j4, none⟩)), Pr.eq (.pointer (some ⟨bx, j4, none⟩)), Pr.eq (.int .u32 ((s.e).toNat : Int)), Pr.eq (.func (.func 190) #[] #[.pointer (some ⟨bx, 0, none⟩), .pointer (some ⟨bt, 0, none⟩)]), Pr.eq (.pointer (some ⟨bx, j5, none⟩)), Pr.eq (.pointer (some ⟨bx, j5, none⟩)), Pr.eq (.int .u32 ((s.f).toNat : Int)), Pr.eq (.func (.func 190) #[] #[.pointer (some ⟨bx, 0, none⟩), .pointer (some ⟨bt, 0, none⟩)]), Pr.eq (.pointer (some ⟨bx, j6, none⟩)), Pr.eq (.pointer (some ⟨bx, j6, none⟩)), Pr.eq (.int .u32 ((s.g).toNat : Int)), Pr.eq (.int .u32 ((s.e).toNat : Int)), Pr.eq (.int .u32 ((s.f).toNat : Int)), Pr.eq (.int .u32 ((s.g).toNat : Int))] (by kernel_rfl) (by kernel_rfl) (by kernel_rfl) (by kernel_rfl) (by kernel_rfl) ⟨?_, ?_, ?_, ?_, ?_, ?_, ?_, ?_, ?_, ?_, ?_, ?_, ?_, ?_, ?_, trivial⟩ ?_
        ·exact fun ac W hL he => stepOk_want rfl (op_move rfl (he.k 12))
        ·intro ac W hL he; refine stepOk_want rfl ?_; have e0 : ac.eval (.tmp 61) = (.func (.func 190) #[] #[.pointer (some ⟨bx, 0, none⟩), .pointer (some ⟨bt, 0, none⟩)]) := (he.g 0 61); exact op_callV (vs := #[.int .i64 4]) rfl e0 (by simp only [List.map_toArray, List.map_cons, List.map_nil]; rfl) (enters_of Tryz.func190 (by kernel_rfl) rfl) (by rfl) ((at_any 4 t j4 bx bt W (by decide) (by decide) hlt hj4 (hL.cell hct)).mono fun e W' ⟨he', hb⟩ => ⟨_, he', hb ▸ Later.refl _, rfl⟩)
        ·exact fun ac W hL he => stepOk_want rfl (op_nil rfl (he.g 1 62) rfl)
        ·exact fun ac W hL he => stepOk_want rfl (op_load rfl (he.g 2 63) (load32 (hL.cell hc4)) rfl)
        ·exact fun ac W hL he => stepOk_want rfl (op_move rfl (he.k 12))
        ·intro ac W hL he; refine stepOk_want rfl ?_; have e0 : ac.eval (.tmp 65) = (.func (.func 190) #[] #[.pointer (some ⟨bx, 0, none⟩), .pointer (some ⟨bt, 0, none⟩)]) := (he.g 4 65); exact op_callV (vs := #[.int .i64 5]) rfl e0 (by simp only [List.map_toArray, List.map_cons, List.map_nil]; rfl) (enters_of Tryz.func190 (by kernel_rfl) rfl) (by rfl) ((at_any 5 t j5 bx bt W (by decide) (by decide) hlt hj5 (hL.cell hct)).mono fun e W' ⟨he', hb⟩ => ⟨_, he', hb ▸ Later.refl _, rfl⟩)
        ·exact fun ac W hL he => stepOk_want rfl (op_nil rfl (he.g 5 66) rfl)
        ·exact fun ac W hL he => stepOk_want rfl (op_load rfl (he.g 6 67) (load32 (hL.cell hc5)) rfl)
        ·exact fun ac W hL he => stepOk_want rfl (op_move rfl (he.k 12))
        ·intro ac W hL he; refine stepOk_want rfl ?_; have e0 : ac.eval (.tmp 69) = (.func (.func 190) #[] #[.pointer (some ⟨bx, 0, none⟩), .pointer (some ⟨bt, 0, none⟩)]) := (he.g 8 69); exact op_callV (vs := #[.int .i64 6]) rfl e0 (by simp only [List.map_toArray, List.map_cons, List.map_nil]; rfl) (enters_of Tryz.func190 (by kernel_rfl) rfl) (by rfl) ((at_any 6 t j6 bx bt W (by decide) (by decide) hlt hj6 (hL.cell hct)).mono fun e W' ⟨he', hb⟩ => ⟨_, he', hb ▸ Later.refl _, rfl⟩)
        ·exact fun ac W hL he => stepOk_want rfl (op_nil rfl (he.g 9 70) rfl)
        ·exact fun ac W hL he => stepOk_want rfl (op_load rfl (he.g 10 71) (load32 (hL.cell hc6)) rfl)
        ·exact fun ac W hL he => stepOk_want rfl (op_assign rfl (he.g 3 64))
        ·exact fun ac W hL he => stepOk_want rfl (op_assign rfl (he.g 7 68))
        ·exact fun ac W hL he => stepOk_want rfl (op_assign rfl (he.g 11 72))
        ·intro xs W2 hL2 hx
         have h12 : xs 12 = wordV s.e := hx 12 (by decide)
         have h13 : xs 13 = wordV s.f := hx 13 (by decide)
         have h14 : xs 14 = wordV s.g := hx 14 (by decide)
         clear hx
         simp only [putL, Nat.reduceAdd, Act.put, List.setIfInBounds_toArray, List.set_cons_succ, List.set_cons_zero, h12, h13, h14]
         clear h12 h13 h14
         replace hrx := hrx.later hL2
         replace hct := hL2.cell hct
         replace hc3 := hL2.cell hc3
         replace hc7 := hL2.cell hc7
         replace hc7f := hL2.cell hc7f
         replace hc8f := hL2.cell hc8f
         replace hck := hL2.cell hck
         replace hrl := hrl.later hL2
         replace hrh := hrh.later hL2
         clear hc4 hc5 hc6
         gi_wp2
         refine wpIn_region_vals (wide_round l0) [Pr.eq (.func (.func 190) #[] #[.pointer (some ⟨bx, 0, none⟩), .pointer (some ⟨bt, 0, none⟩)]), Pr.eq (.pointer (some ⟨bx, j7, none⟩)), Pr.eq (.pointer (some ⟨bx, j7, none⟩)), Pr.eq (.int .u32 ((s.h).toNat : Int)), Pr.eq (.func (.func 192) #[] #[.pointer (some ⟨hs, 0, none⟩), .pointer (some ⟨hp, 0, none⟩)]), Pr.eq (.int .u32 ((s.e).toNat : Int)), Pr.eq (.int .u32 ((Sha.S1 s.e).toNat : Int)), Pr.eq (.int .u32 ((s.h + Sha.S1 s.e).toNat : Int)), Pr.eq (.int .u32 ((s.g).toNat : Int)), Pr.eq (.int .u32 ((s.e).toNat : Int)), Pr.eq (.int .u32 ((s.f).toNat : Int)), Pr.eq (.int .u32 ((s.g).toNat : Int)), Pr.eq (.int .u32 ((s.f ^^^ s.g).toNat : Int)), Pr.eq (.int .u32 ((s.e &&& (s.f ^^^ s.g)).toNat : Int)), Pr.eq (.int .u32 ((s.g ^^^ (s.e &&& (s.f ^^^ s.g))).toNat : Int)), Pr.eq (.int .u32 ((s.h + Sha.S1 s.e + (s.g ^^^ (s.e &&& (s.f ^^^ s.g)))).toNat : Int)), Pr.eq (.int .i64 (t : Int)), Pr.eq (.pointer (some ⟨bk, t, none⟩)), Pr.eq (.int .u32 ((Sha.kc t).toNat : Int)), Pr.eq (.int .u32 ((s.h + Sha.S1 s.e + (s.g ^^^ (s.e &&& (s.f ^^^ s.g))) + Sha.kc t).toNat : Int)), Pr.eq (.int .u32 ((mw).toNat : Int)), Pr.eq (.int .u32 ((s.h + Sha.S1 s.e + (s.g ^^^ (s.e &&& (s.f ^^^ s.g))) + Sha.kc t + mw).toNat : Int)), Pr.eq (.int .u32 ((s.h + Sha.S1 s.e + (s.g ^^^ (s.e &&& (s.f ^^^ s.g))) + Sha.kc t + mw).toNat : Int))] (by kernel_rfl) (by kernel_rfl) (by kernel_rfl) (by kernel_rfl) (by kernel_rfl) ⟨?_, ?_, ?_, ?_, ?_, ?_, ?_, ?_, ?_, ?_, ?_, ?_, ?_, ?_, ?_, ?_, ?_, ?_, ?_, ?_, ?_, ?_, ?_, trivial⟩ ?_
         ·exact fun ac W hL he => stepOk_want rfl (op_move rfl (he.k 12))
         ·intro ac W hL he; refine stepOk_want rfl ?_; have e0 : ac.eval (.tmp 73) = (.func (.func 190) #[] #[.pointer (some ⟨bx, 0, none⟩), .pointer (some ⟨bt, 0, none⟩)]) := (he.g 0 73); exact op_callV (vs := #[.int .i64 7]) rfl e0 (by simp only [List.map_toArray, List.map_cons, List.map_nil]; rfl) (enters_of Tryz.func190 (by kernel_rfl) rfl) (by rfl) ((at_any 7 t j7 bx bt W (by decide) (by decide) hlt hj7 (hL.cell hct)).mono fun e W' ⟨he', hb⟩ => ⟨_, he', hb ▸ Later.refl _, rfl⟩)
         ·exact fun ac W hL he => stepOk_want rfl (op_nil rfl (he.g 1 74) rfl)
         ·exact fun ac W hL he => stepOk_want rfl (op_load rfl (he.g 2 75) (load32 (hL.cell hc7)) rfl)
         ·exact fun ac W hL he => stepOk_want rfl (op_load rfl (he.k 8) (loadF (hL.cell hc8f)) rfl)
         ·exact fun ac W hL he => stepOk_want rfl (op_move rfl (he.k 16))
         ·intro ac W hL he; refine stepOk_want rfl ?_; have e0 : ac.eval (.tmp 77) = (.func (.func 192) #[] #[.pointer (some ⟨hs, 0, none⟩), .pointer (some ⟨hp, 0, none⟩)]) := (he.g 4 77); have e1 : ac.eval (.tmp 78) = (.int .u32 ((s.e).toNat : Int)) := (he.g 5 78); exact op_callV rfl e0 (by simp only [List.map_toArray, List.map_cons, List.map_nil, e1]; rfl) (enters_of Tryz.func192 (by kernel_rfl) rfl) (by rfl) ((rot_S1 s.e W (hrh.later hL)).mono fun e W' ⟨he', hb⟩ => ⟨_, he', hb ▸ Later.refl _, rfl⟩)
         ·exact fun ac W hL he => stepOk_want rfl (op_binOp rfl (he.g 3 76) (he.g 6 79) eqg_add add32 rfl)
         ·exact fun ac W hL he => stepOk_want rfl (op_move rfl (he.k 18))
         ·exact fun ac W hL he => stepOk_want rfl (op_move rfl (he.k 16))
         ·exact fun ac W hL he => stepOk_want rfl (op_move rfl (he.k 17))
         ·exact fun ac W hL he => stepOk_want rfl (op_move rfl (he.k 18))
         ·exact fun ac W hL he => stepOk_want rfl (op_binOp rfl (he.g 10 83) (he.g 11 84) eqg_xor xor32 rfl)
         ·exact fun ac W hL he => stepOk_want rfl (op_binOp rfl (he.g 9 82) (he.g 12 85) eqg_and and32 rfl)
         ·exact fun ac W hL he => stepOk_want rfl (op_binOp rfl (he.g 8 81) (he.g 13 86) eqg_xor xor32 rfl)
         ·exact fun ac W hL he => stepOk_want rfl (op_binOp rfl (he.g 7 80) (he.g 14 87) eqg_add add32 rfl)
         ·exact fun ac W hL he => stepOk_want rfl (op_load rfl (he.k 10) (loadI (hL.cell hct)) rfl)
         ·exact fun ac W hL he => stepOk_want rfl (op_idx rfl (he.k 6) (he.g 16 89) (idxK hlt) rfl)
         ·exact fun ac W hL he => stepOk_want rfl (op_load rfl (he.g 17 90) (load32 (hL.cell hck)) rfl)
         ·exact fun ac W hL he => stepOk_want rfl (op_binOp rfl (he.g 15 88) (he.g 18 91) eqg_add add32 rfl)
         ·exact fun ac W hL he => stepOk_want rfl (op_move rfl (he.k 11))
         ·exact fun ac W hL he => stepOk_want rfl (op_binOp rfl (he.g 19 92) (he.g 20 93) eqg_add add32 rfl)
         ·exact fun ac W hL he => stepOk_want rfl (op_assign rfl (he.g 21 94))
         ·intro xs W3 hL3 hx
          have h22 : xs 22 = wordV (s.h + Sha.S1 s.e + (s.g ^^^ (s.e &&& (s.f ^^^ s.g))) + Sha.kc t + mw) := hx 22 (by decide)
          clear hx
          simp only [putL, Nat.reduceAdd, Act.put, List.setIfInBounds_toArray, List.set_cons_succ, List.set_cons_zero, h22]
          clear h22
          replace hrx := hrx.later hL3
          replace hct := hL3.cell hct
          replace hc3 := hL3.cell hc3
          replace hc7f := hL3.cell hc7f
          replace hrl := hrl.later hL3
          have hf3 := hrx.frozen j3
          obtain ⟨ad, had⟩ : ∃ y, s.h + Sha.S1 s.e + (s.g ^^^ (s.e &&& (s.f ^^^ s.g))) + Sha.kc t + mw = y := ⟨_, rfl⟩
          rw [had]
          have HAD := Lib.hid had
          have hda := bv_add s.d ad
          clear hc7 hc8f hck hrh had
          gi_wp2_with (refine ⟨trivial, ?_⟩; gi_at_call 190; refine (CallsIn.inRound l0 (callsIn_wide.2 (at_any 3 t j3 bx bt _ (by decide) (by decide) hlt hj3 hct))).mono ?_; rintro e w' ⟨rfl, rfl⟩)
          refine opIn_of_op (wide_round l0) (plain_of rfl) (op_storeK (x := .tmp 101) (y := .tmp 100) (vx := .pointer (some ⟨bx, j3, none⟩)) (vy := wordV (s.d + ad)) rfl (by rfl) (by rfl) (store32 hc3 hf3) ?_)
          have hrx4 := hrx.set j3 (wordV (s.d + ad))
          have hg4 := grown_set W3 bx j3 (wordV (s.d + ad))
          have hk4 : ∀ k, S k -> (W3.setCell ⟨bx, j3, none⟩ (wordV (s.d + ad))).heap[k]? = W3.heap[k]? := fun k hk => heap_setCell_other W3 _ _ _ (hSo k hk).2.1
          have hc7f4 : (W3.setCell ⟨bx, j3, none⟩ (wordV (s.d + ad))).cell? ⟨b7, 0, none⟩ = some (.func (.func 192) #[] #[.pointer (some ⟨ls, 0, none⟩), .pointer (some ⟨lp, 0, none⟩)]) := by rw [World.cell?_of_block (w := W3) (hk4 b7 hlS.1)]; exact hc7f
          have hrl4 := hrl.keep (hk4 _ hlS.2.1) (hk4 _ hlS.2.2.1) (hk4 _ hlS.2.2.2)
          have hct4 : (W3.setCell ⟨bx, j3, none⟩ (wordV (s.d + ad))).cell? ⟨bt, 0, none⟩ = some (.int .i64 (t : Int)) := by rw [World.cell?_of_block (w := W3) (heap_setCell_other W3 _ _ _ hbtx)]; exact hct
          generalize W3.setCell ⟨bx, j3, none⟩ (wordV (s.d + ad)) = W4 at *
          clear hc3 hf3 hct hc7f hrl hda
          gi_wp2
          refine wpIn_region_last (wide_round l0) [Pr.eq (.func (.func 190) #[] #[.pointer (some ⟨bx, 0, none⟩), .pointer (some ⟨bt, 0, none⟩)]), Pr.eq (.pointer (some ⟨bx, j7, none⟩)), Pr.eq (.int .u32 ((ad).toNat : Int)), Pr.eq (.func (.func 192) #[] #[.pointer (some ⟨ls, 0, none⟩), .pointer (some ⟨lp, 0, none⟩)]), Pr.eq (.int .u32 ((s.a).toNat : Int)), Pr.eq (.int .u32 ((Sha.S0 s.a).toNat : Int)), Pr.eq (.int .u32 ((ad + Sha.S0 s.a).toNat : Int)), Pr.eq (.int .u32 ((s.a).toNat : Int)), Pr.eq (.int .u32 ((s.b).toNat : Int)), Pr.eq (.int .u32 ((s.c).toNat : Int)), Pr.eq (.int .u32 ((s.b ||| s.c).toNat : Int)), Pr.eq (.int .u32 ((s.a &&& (s.b ||| s.c)).toNat : Int)), Pr.eq (.int .u32 ((s.b).toNat : Int)), Pr.eq (.int .u32 ((s.c).toNat : Int)), Pr.eq (.int .u32 ((s.b &&& s.c).toNat : Int)), Pr.eq (.int .u32 ((s.a &&& (s.b ||| s.c) ||| s.b &&& s.c).toNat : Int)), Pr.eq (.int .u32 ((ad + Sha.S0 s.a + (s.a &&& (s.b ||| s.c) ||| s.b &&& s.c)).toNat : Int)), Pr.eq (.pointer (some ⟨bx, j7, none⟩))] (by kernel_rfl) (by kernel_rfl) (by kernel_rfl) (by kernel_rfl) (by kernel_rfl) (by kernel_rfl) rfl ⟨?_, ?_, ?_, ?_, ?_, ?_, ?_, ?_, ?_, ?_, ?_, ?_, ?_, ?_, ?_, ?_, ?_, ?_, trivial⟩ ?_
          ·exact fun ac W hL he => stepOk_want rfl (op_move rfl (he.k 12))
          ·intro ac W hL he; refine stepOk_want rfl ?_; have e0 : ac.eval (.tmp 102) = (.func (.func 190) #[] #[.pointer (some ⟨bx, 0, none⟩), .pointer (some ⟨bt, 0, none⟩)]) := (he.g 0 102); exact op_callV (vs := #[.int .i64 7]) rfl e0 (by simp only [List.map_toArray, List.map_cons, List.map_nil]; rfl) (enters_of Tryz.func190 (by kernel_rfl) rfl) (by rfl) ((at_any 7 t j7 bx bt W (by decide) (by decide) hlt hj7 (hL.cell hct4)).mono fun e W' ⟨he', hb⟩ => ⟨_, he', hb ▸ Later.refl _, rfl⟩)
          ·exact fun ac W hL he => stepOk_want rfl (op_move rfl (he.k 19))
          ·exact fun ac W hL he => stepOk_want rfl (op_load rfl (he.k 7) (loadF (hL.cell hc7f4)) rfl)
          ·exact fun ac W hL he => stepOk_want rfl (op_move rfl (he.k 13))
          ·intro ac W hL he; refine stepOk_want rfl ?_; have e0 : ac.eval (.tmp 105) = (.func (.func 192) #[] #[.pointer (some ⟨ls, 0, none⟩), .pointer (some ⟨lp, 0, none⟩)]) := (he.g 3 105); have e1 : ac.eval (.tmp 106) = (.int .u32 ((s.a).toNat : Int)) := (he.g 4 106); exact op_callV rfl e0 (by simp only [List.map_toArray, List.map_cons, List.map_nil, e1]; rfl) (enters_of Tryz.func192 (by kernel_rfl) rfl) (by rfl) ((rot_S0 s.a W (hrl4.later hL)).mono fun e W' ⟨he', hb⟩ => ⟨_, he', hb ▸ Later.refl _, rfl⟩)
          ·exact fun ac W hL he => stepOk_want rfl (op_binOp rfl (he.g 2 104) (he.g 5 107) eqg_add add32 rfl)
          ·exact fun ac W hL he => stepOk_want rfl (op_move rfl (he.k 13))
          ·exact fun ac W hL he => stepOk_want rfl (op_move rfl (he.k 14))
          ·exact fun ac W hL he => stepOk_want rfl (op_move rfl (he.k 15))
          ·exact fun ac W hL he => stepOk_want rfl (op_binOp rfl (he.g 8 110) (he.g 9 111) eqg_or or32 rfl)
          ·exact fun ac W hL he => stepOk_want rfl (op_binOp rfl (he.g 7 109) (he.g 10 112) eqg_and and32 rfl)
          ·exact fun ac W hL he => stepOk_want rfl (op_move rfl (he.k 14))
          ·exact fun ac W hL he => stepOk_want rfl (op_move rfl (he.k 15))
          ·exact fun ac W hL he => stepOk_want rfl (op_binOp rfl (he.g 12 114) (he.g 13 115) eqg_and and32 rfl)
          ·exact fun ac W hL he => stepOk_want rfl (op_binOp rfl (he.g 11 113) (he.g 14 116) eqg_or or32 rfl)
          ·exact fun ac W hL he => stepOk_want rfl (op_binOp rfl (he.g 6 108) (he.g 15 117) eqg_add add32 rfl)
          ·exact fun ac W hL he => stepOk_want rfl (op_nil rfl (he.g 1 103) rfl)
          ·intro xs W5 hL5 hx hk hg
           have e1 := hg 17 119 (by decide) (by kernel_rfl)
           have e2 := hg 16 118 (by decide) (by kernel_rfl)
           have v1 : xs 17 = .pointer (some ⟨bx, j7, none⟩) := hx 17 (by decide)
           have v2 : xs 16 = wordV (ad + Sha.S0 s.a + (s.a &&& (s.b ||| s.c) ||| s.b &&& s.c)) := hx 16 (by decide)
           rw [v1] at e1
           rw [v2, BitVec.add_assoc] at e2
           have hr5 := hrx4.later hL5
           have hc5' := hr5.cell j7
           obtain ⟨v7, hv7⟩ : ∃ v, W5.cell? ⟨bx, j7, none⟩ = some v := ⟨_, (hr5.cell j7).trans (Array.getElem?_eq_getElem (by rw [Array.size_setIfInBounds, stC_size]; omega))⟩
           refine last_store rfl rfl e1 e2 (store32 hv7 (hr5.frozen j7)) ?_
           have hr6 := hr5.set j7 (wordV (ad + (Sha.S0 s.a + (s.a &&& (s.b ||| s.c) ||| s.b &&& s.c))))
           have hg6 := grown_set W5 bx j7 (wordV (ad + (Sha.S0 s.a + (s.a &&& (s.b ||| s.c) ||| s.b &&& s.c))))
           generalize W5.setCell ⟨bx, j7, none⟩ (wordV (ad + (Sha.S0 s.a + (s.a &&& (s.b ||| s.c) ||| s.b &&& s.c)))) = W6 at *
           clear hx hk hg e1 e2 v1 v2 hc5' hv7
           have hst : ((stC s t).setIfInBounds j3 (wordV (s.d + ad))).setIfInBounds j7 (wordV (ad + (Sha.S0 s.a + (s.a &&& (s.b ||| s.c) ||| s.b &&& s.c)))) = stC (Sha.rnd (Sha.kc t) mw s) (t + 1) := by rw [<- HAD.out]; exact HSTEP.out
           rw [hst, <- HNEXT.out] at hr6
           have hG : W.grownBy W6 (some bx) := grown_trans (later_grown hL1 bx) (grown_trans (later_grown hL2 bx) (grown_trans (later_grown hL3 bx) (grown_trans hg4 (grown_trans (later_grown hL5 bx) hg6))))
           have hsz := hh.size
           have hpl : (pre ++ [t]).length = t + 1 := by rw [List.length_append, HT.out]; rfl
           refine (⟨KeepsFrom.of_grownBy hG (fun j e => by cases e; have := HS.out.1; omega), ⟨fun k hk => hG.block k (by have := (hSo k hk).2.2; omega) (fun e => by cases e; exact (hSo _ hk).2.1 rfl), hG.block bm (by have := HBML.out; omega) (fun e => by cases e; exact hmx rfl)⟩, by rw [hpl]; exact hr6, hh.grown hG (fun r e => by cases e; exact .inr (.inl rfl))⟩ : KeepsFrom wf.heap.size W W6 /\ Keeps S bm W W6 /\ Row W6 bx 195 (stC (Sha.rs x (Sha.wd l) (pre ++ [t]).length) (pre ++ [t]).length) /\ Held bm bx wf W6)
      case done =>
       rintro D xs W hD hS ⟨hrx, hh⟩ hK
       rw [hS] at hrx
       have hgW : Row W g T cs := (hh.block g (by have := HS.out.2.2; have := HLW.out.size; omega) hgm hgx).trans hrg
       rw [hT0]
       clear hT0 hrm hrk2 hrx2 h7s h8s halS
       go_upto_region 18 with fail
       obtain ⟨y, hy⟩ : ∃ y, Sha.rs x (Sha.wd l) 64 = y := ⟨_, rfl⟩
       rw [hy] at hrx
       have hld := loadS (o := 0) hrx (st_eight y)
       rw [<- show stC y 64 = stC y 0 from rfl] at hld
       have hbl : Sha.blk x l = y.add x := by rw [<- hy]; rfl
       have HBL := Lib.hid hbl
       have h8 : o + 8 <= cs.size := by
        have := HX.out 7 (by decide)
        have := (Array.getElem?_eq_some_iff.1 this).1
        omega
       have h0 : stTo cs o (y.add x) 0 = cs := rfl
       have H0 := Lib.hid h0
       have hWs := hh.size
       clear hy hbl h0
       go_wp2_with (first | (refine wpList_load rfl 195 (.tmp 9) rfl (.pointer (some ⟨bx, 0, none⟩)) rfl hld ?_))
       go_loopw [20, 21, 121] (fun _ _ t wr => ∃ k : Nat, k <= 8 /\ t = .int .i64 k /\ Row wr g T (stTo cs o (y.add x) k) /\ W.grownBy wr (some g)) (fun _ _ t _ => 8 - (intOf t).toNat)
       case atStart => exact ⟨0, by omega, rfl, by rw [H0.out]; exact hgW, grown_refl _ _⟩
       case round =>
        obtain ⟨k, hk, rfl, hrk, hgk⟩ := hrel
        by_cases hlt : k < 8
        ·have hix := fun w' : World => idxAgg (W := w') hlt ((stC_get y 64 k hlt).trans (by rw [show (k + 64) % 8 = k from by omega]))
         have hcx := (hrk.cell (o + k)).trans ((stTo_get cs o (y.add x) k k (Nat.le_refl _) hlt h8).trans (HX.out k hlt))
         have hfx := hrk.frozen (o + k)
         have hsu := stTo_succ cs o (y.add x) k hlt
         rw [st_add_get, BitVec.add_comm] at hsu
         have HSU := Lib.hid hsu
         have had := bv_add (x.get k) (y.get k)
         clear hsu
         generalize x.get k = xk at *
         generalize y.get k = yk at *
         have hxl := xk.isLt
         have hyl := yk.isLt
         go_wp2_with fail
         refine (wpIn_wide (n := 6)).1 ?_
         refine wpIn_region_last wide_wide [Pr.eq (.pointer (some ⟨g, o, none⟩)), Pr.eq (.int .i64 (k : Int)), Pr.eq (.pointer (some ⟨g, o, none⟩)), Pr.eq (.pointer (some ⟨g, o, none⟩)), Pr.eq (.pointer (some ⟨g, o + k, none⟩)), Pr.eq (.int .u32 (xk.toNat : Int)), Pr.eq (.int .u32 (yk.toNat : Int)), Pr.eq (.int .u32 ((xk + yk).toNat : Int)), Pr.eq (.pointer (some ⟨g, o, none⟩)), Pr.eq (.pointer (some ⟨g, o, none⟩)), Pr.eq (.pointer (some ⟨g, o + k, none⟩))] (by kernel_rfl) (by kernel_rfl) (by kernel_rfl) (by kernel_rfl) (by kernel_rfl) (by kernel_rfl) rfl ⟨?_, ?_, ?_, ?_, ?_, ?_, ?_, ?_, ?_, ?_, ?_, trivial⟩ ?_
         ·exact fun ac W hL he => stepOk_want rfl (op_move rfl (he.k 0))
         ·exact fun ac W hL he => stepOk_want rfl (op_move rfl (he.k 20))
         ·exact fun ac W hL he => stepOk_want rfl (op_nil rfl (he.g 0 125) rfl)
         ·exact fun ac W hL he => stepOk_want rfl (op_fieldAddr rfl (he.g 2 127) fieldP rfl)
         ·exact fun ac W hL he => stepOk_want rfl (op_idx rfl (he.g 3 128) (he.g 1 126) (idxS hlt) rfl)
         ·exact fun ac W hL he => stepOk_want rfl (op_load rfl (he.g 4 129) (load32 (hL.cell hcx)) rfl)
         ·exact fun ac W hL he => stepOk_want rfl (op_move rfl (he.k 21))
         ·exact fun ac W hL he => stepOk_want rfl (op_binOp rfl (he.g 5 130) (he.g 6 131) eqg_add add32 rfl)
         ·exact fun ac W hL he => stepOk_want rfl (op_nil rfl (he.g 0 125) rfl)
         ·exact fun ac W hL he => stepOk_want rfl (op_fieldAddr rfl (he.g 8 133) fieldP rfl)
         ·exact fun ac W hL he => stepOk_want rfl (op_idx rfl (he.g 9 134) (he.g 1 126) (idxS hlt) rfl)
         ·intro xs W5 hL5 hx hk hg
          have e1 := hg 10 135 (by decide) (by kernel_rfl)
          have e2 := hg 7 132 (by decide) (by kernel_rfl)
          have v1 : xs 10 = .pointer (some ⟨g, o + k, none⟩) := hx 10 (by decide)
          have v2 : xs 7 = wordV (xk + yk) := hx 7 (by decide)
          rw [v1] at e1
          rw [v2] at e2
          have hr5 := hrk.later hL5
          refine last_store rfl rfl e1 e2 (store32 (hL5.cell hcx) (hr5.frozen _)) ?_
          have hr6 := hr5.set (o + k) (wordV (xk + yk))
          rw [<- HSU.out] at hr6
          have hg6 := grown_trans hgk (grown_trans (later_grown hL5 g) (grown_set W5 g (o + k) (wordV (xk + yk))))
          clear hx hk hg e1 e2 v1 v2
          simp only [initL, putL, Nat.reduceAdd, Act.put, List.setIfInBounds_toArray, List.set_cons_succ, List.set_cons_zero]
          generalize W5.setCell ⟨g, o + k, none⟩ (wordV (xk + yk)) = W6 at *
          go_wp2_with fail
          go_roundw
          case rel => exact ⟨k + 1, by omega, by go_num, hr6, hg6⟩
          case measure => simp [intOf]; omega
        ·obtain rfl : k = 8 := by omega
         go_wp2_with fail
         have hDg : D ≠ g := by have := HS.out.2.2; have := HLW.out.size; omega
         have hKr : wr.heap[D]? = some (.deferred (some [])) := (hgk.block D (Array.getElem?_eq_some_iff.1 hK).1 (fun e => by cases e; exact hDg rfl)).trans hK
         refine ⟨by simp, .inl ⟨_, _, rfl, run_takeDeferred hKr, ?_⟩⟩
         refine ⟨_, results_none rfl _ _ _, ?_, ?_⟩
         ·rfl
         ·have hbm' := HBM.out
          have hwl := HLW.out.size
          have hst8 : stTo cs o (y.add x) 8 = setFrom cs o ((Sha.blk x l).list.map wordV) := by rw [HBL.out]; rfl
          rw [<- hst8]
          refine ⟨(World.putObj_heap_other (fun e => hDg e.symm)).trans hrk, hgk.os.trans (hh.os.trans HLW.out.os), hgk.tape.trans (hh.tape.trans HLW.out.tape), hgk.output.trans (hh.output.trans HLW.out.output), ?_, fun k hk hne => ?_⟩
          ·have h1 := hgk.size
           have h2 : (wr.putObj D (Obj.deferred none)).heap.size = wr.heap.size := by simp [World.putObj]
           omega
          ·rw [World.putObj_heap_other (by omega), hgk.block k (by omega) hne, hh.block k (by omega) (by omega) (by omega)]
           exact HLW.out.block k hk
      case stop =>
       rintro D c' pre W _ _ h _
       exact h.elim
end Go.Proofs.YtloiaaolnfimgaaGreat
namespace Go.Proofs.YtloiaaolnfimgaaGreat
open Go.RowKit
theorem stl (x : Sha.St) : (x.list.map wordV).length = 8 := rfl
theorem runC_size (x : Sha.St) (p : List UInt8) (n : Nat) (hp : p.length = 64) : (runC x p n).size = 74 := by simp [runC, hp, Sha.St.list]
theorem runC_st (x y : Sha.St) (p : List UInt8) (n : Nat) : setFrom (runC x p n) 0 (y.list.map wordV) = runC y p n := by
 have := setFrom_mid [] (x.list.map wordV) (p.map byteV ++ [intV n, .bool true]) (y.list.map wordV) 0 rfl rfl
 simpa [runC] using this
theorem runC_part (x : Sha.St) (p b : List UInt8) (n at_ : Nat) (hp : p.length = 64) (h : at_ + b.length <= 64) : setFrom (runC x p n) (8 + at_) (b.map byteV) = runC x (p.take at_ ++ (b ++ p.drop (at_ + b.length))) n := by
 have e : p = p.take at_ ++ ((p.drop at_).take b.length ++ p.drop (at_ + b.length)) := by
  rw [<- List.drop_drop, List.take_append_drop, List.take_append_drop]
 have := setFrom_mid (x.list.map wordV ++ (p.take at_).map byteV) (((p.drop at_).take b.length).map byteV) ((p.drop (at_ + b.length)).map byteV ++ [intV n, .bool true]) (b.map byteV) (8 + at_)
  (by rw [List.length_append, stl, List.length_map, List.length_take]; omega) (by simp only [List.length_map, List.length_take, List.length_drop]; omega)
 unfold runC
 conv => lhs; rw [e]
 simp only [List.map_append, List.append_assoc] at this ⊢
 exact this
theorem runC_came (x : Sha.St) (p : List UInt8) (n m : Nat) (hp : p.length = 64) : (runC x p n).setIfInBounds 72 (intV m) = runC x p m := by
 have := setFrom_mid (x.list.map wordV ++ p.map byteV) [intV n] [.bool true] [intV m] 72 (by rw [List.length_append, stl, List.length_map, hp]) rfl
 simp only [List.append_assoc, List.cons_append, List.nil_append] at this
 exact this
theorem runC_get72 (x : Sha.St) (p : List UInt8) (n : Nat) (hp : p.length = 64) : (runC x p n)[72]? = some (.int .i64 (n : Int)) := by
 unfold runC
 rw [List.getElem?_toArray, List.getElem?_append_right (by rw [stl]; omega), List.getElem?_append_right (by rw [stl, List.length_map]; omega), stl, List.length_map, hp]
 rfl
theorem runC_get73 (x : Sha.St) (p : List UInt8) (n : Nat) (hp : p.length = 64) : (runC x p n)[73]? = some (.bool true) := by
 unfold runC
 rw [List.getElem?_toArray, List.getElem?_append_right (by rw [stl]; omega), List.getElem?_append_right (by rw [stl, List.length_map]; omega), stl, List.length_map, hp]
 rfl
theorem runC_state (x : Sha.St) (p : List UInt8) (n : Nat) (i : Nat) (h : i < 8) : (runC x p n)[0 + i]? = some (wordV (x.get i)) := by
 unfold runC
 rw [Nat.zero_add, List.getElem?_toArray, List.getElem?_append_left (by rw [stl]; exact h), list_get x i h]
theorem runC_rd {w : World} {g : Nat} {T : TypeId} {x : Sha.St} {p : List UInt8} {n : Nat} (hp : p.length = 64) (h : Row w g T (runC x p n)) : Rd w (some ⟨g, 8, none⟩) p := fun _ =>
 ⟨g, 8, rfl, fun i hi => by
  rw [h.cell]
  unfold runC
  rw [List.getElem?_toArray, List.getElem?_append_right (by rw [stl]; omega), stl, show 8 + i - 8 = i from by omega, List.getElem?_append_left (by rw [List.length_map]; exact hi), List.getElem?_map, List.getElem?_eq_getElem hi]
  rfl⟩
theorem runC_one (x : Sha.St) (p : List UInt8) (n : Nat) : (runC x p n).all (·.oneCell') = true := by
 rw [Array.all_eq_true_iff_forall_mem]
 intro v hv
 unfold runC at hv
 rw [List.mem_toArray, List.mem_append, List.mem_append] at hv
 rcases hv with hv | hv | hv
 ·obtain ⟨i, hi, rfl⟩ := List.mem_map.1 hv; rfl
 ·obtain ⟨i, hi, rfl⟩ := List.mem_map.1 hv; rfl
 ·simp at hv
  rcases hv with rfl | rfl <;> rfl
section
variable {P : Program} {Q : Exit -> Act -> World -> Prop}
theorem last_callF {o : Oper} {a : Act} {W : World} {f : FuncId} {xs : Array Operand} {ts : Array TypeId} {vs : Array Value} (ho : o.op = .call { callee := .value (.func f), args := xs, argTypes := ts }) (hv : xs.map a.eval = vs) (eg : ∀ args w, (callFunc f args).run P w = .ok (.enter f args) w)
  (h : Calls P f vs W fun e W' => ∃ v, e = .returned v /\ Q .normal (a.put o.dst v) W') : LastOk P o a W Q := ⟨by
 have hr : ((do let d <- resolve a.eval { callee := .value (.func f), args := xs, argTypes := ts } o.type; invoke d.target d.args) : Sem Next).run P W = .ok (.enter f vs) W := by
  simp [resolve, invoke, go_sem, hv, eg, Act.eval]
 unfold Oper.wp execOp
 simp only [ho]
 rw [hr]
 exact h.mono fun e W' ⟨v, he, hq⟩ => by subst he; exact hq⟩
end
def firstParts : Array (Nat × Value) := #[(0, wordV Sha.first.a), (1, wordV Sha.first.b), (2, wordV Sha.first.c), (3, wordV Sha.first.d), (4, wordV Sha.first.e), (5, wordV Sha.first.f), (6, wordV Sha.first.g), (7, wordV Sha.first.h)]
theorem buildFirst (w : World) : (Instr.build 195 firstParts).run Tryz.prog w = .ok (.agg (stC Sha.first 0)) w := by kernel_rfl
theorem first_any (w : World) : Calls Tryz.prog 174 #[] w fun e w' => e = .returned (.agg (stC Sha.first 0)) /\ w.alloc (.cells (stC Sha.first 0) 195) = w' := by
 go_enter Tryz.func174, Tryz.ntmps174
 go_wp2_with (first
  | (with_reducible refine wpList_alloc rfl 195 rfl (alloc8 _) ?_)
  | (refine wpList_buildC rfl 195 _ rfl firstParts (by kernel_rfl) (buildFirst _) ?_)
  | (refine wpList_store rfl 195 (.tmp 0) (.tmp 1) rfl (.pointer (some ⟨w.heap.size, 0, none⟩)) (.agg (stC Sha.first 0)) rfl rfl (storeS Sha.first _) ?_))
 refine bodyPost_ret (results_cell_row rfl _ _ w.heap.size 195 (stC Sha.first 0) (0, 0) _ rfl (Row.new w 195 (stC Sha.first 0)) Tryz.underlying195 rfl (by rw [stC_size]; exact info8)) rfl ⟨rfl, rfl⟩
def run0 : Array Value := runC Sha.first (Sha.zeros 64) 0
theorem buildPress (w : World) : (Instr.build 251 #[(0, .agg (stC Sha.first 0))]).run Tryz.prog w = .ok (.agg (stC Sha.first 0)) w := by kernel_rfl
theorem buildRun (w : World) : (Instr.build 253 #[(0, .agg (stC Sha.first 0)), (3, .bool true)]).run Tryz.prog w = .ok (.agg run0) w := by kernel_rfl
theorem boxRun (w : World) : (Instr.box 253 (.agg run0)).run Tryz.prog w = .ok (.pointer (some ⟨w.heap.size, 0, none⟩)) (w.alloc (.cells run0 253)) := by kernel_rfl
theorem new_any (w : World) : Calls Tryz.prog 149 #[] w fun e w' => ∃ g, e = .returned (.pointer (some ⟨g, 0, none⟩)) /\ IsRun w' g [] /\ w.heap.size <= g /\ Below w.heap.size w w' := by
 go_enter Tryz.func149, Tryz.ntmps149
 go_wp2_with (first
  | (go_at_call 174; refine (first_any _).mono ?_; rintro e w1 ⟨rfl, rfl⟩)
  | (refine wpList_build1 rfl 251 0 (.tmp 1) rfl (.agg (stC Sha.first 0)) rfl (buildPress _) ?_)
  | (refine wpList_buildC rfl 253 _ rfl #[(0, .agg (stC Sha.first 0)), (3, .bool true)] (by first | rfl | kernel_rfl) (buildRun _) ?_)
  | (refine wpList_box rfl 253 (.tmp 3) rfl (.agg run0) rfl (boxRun _) ?_))
 go_ret
 refine ⟨_, rfl, ⟨Sha.zeros 64, by simp [Sha.zeros], by simp [Sha.left], ?_⟩, ?_, ?_⟩
 ·have e : runC (Sha.state []) (Sha.zeros 64) ([] : List UInt8).length = run0 := rfl
  rw [e]
  exact Row.newAt (by simp only [World.size_alloc])
 ·omega
 ·exact ((below_new w _).alloc (by simp only [World.size_alloc]; omega) _)
theorem none_no (g : Nat) (l : List UInt8) (w : World) (h : IsRun w g l) : Calls Tryz.prog 175 #[.pointer (some ⟨g, 0, none⟩)] w fun e w' => e = .returned (.bool false) /\ w = w' := by
 obtain ⟨p, hp, _, hr⟩ := h
 have hc : w.cell? ⟨g, 73, none⟩ = some (.bool true) := (hr.cell 73).trans (runC_get73 _ _ _ hp)
 clear hr
 go_enter Tryz.func175, Tryz.ntmps175
 go_wp2
 go_ret
 exact ⟨rfl, rfl⟩
theorem sliceArr {g o a : Nat} {i : Int} (hi : i = (a : Int)) (h : a < 64) (W : World) : (Instr.sliceAt 198 (.pointer (some ⟨g, o, none⟩)) (some (.int .i64 i)) none none).run Tryz.prog W = .ok (.slice (some ⟨g, o + a, none⟩) (64 - a) (64 - a)) W := by
 subst hi
 obtain ⟨i, hi0, hz, hs, hb⟩ := info_parts info5
 have h1 : (a : Int) <= 64 := by omega
 have h2 : (0 : Int) <= (a : Int) := by omega
 have h3 : ¬ 64 = a := by omega
 simp [Instr.sliceAt, run_underlying Tryz.underlying198, Instr.sliceBounds, Instr.sliceBound, asIntOf, h1, h2, h3, sizeOf, typeInfo, hi0, hs]
 rw [show (Instr.sureAddr (Value.pointer (some ⟨g, o, none⟩))).run Tryz.prog W = .ok ⟨g, o, none⟩ W from rfl]
 simp only [Result.andThen_ok]
 rw [if_pos (by omega)]
 simp [Addr.add]
theorem fieldR0 {b : Nat} {W : World} : (Instr.fieldAt 253 (.pointer (some ⟨b, 0, none⟩)) 0).run Tryz.prog W = .ok (.pointer (some ⟨b, 0, none⟩)) W := by go_simp
theorem fieldR1 {b : Nat} {W : World} : (Instr.fieldAt 253 (.pointer (some ⟨b, 0, none⟩)) 1).run Tryz.prog W = .ok (.pointer (some ⟨b, 8, none⟩)) W := by go_simp
theorem sliceAll {g o : Nat} (W : World) : (Instr.sliceAt 198 (.pointer (some ⟨g, o, none⟩)) none none none).run Tryz.prog W = .ok (.slice (some ⟨g, o, none⟩) 64 64) W := by
 obtain ⟨i, hi0, hz, hs, hb⟩ := info_parts info5
 simp [Instr.sliceAt, run_underlying Tryz.underlying198, Instr.sliceBounds, sizeOf, typeInfo, hi0, hs]
 rw [show (Instr.sureAddr (Value.pointer (some ⟨g, o, none⟩))).run Tryz.prog W = .ok ⟨g, o, none⟩ W from rfl]
 simp [Addr.add]
theorem run_slice_from2 {P : Program} {t U : TypeId} {A : Option Addr} {n ca k : Nat} (ht : P.underlying t = some (.slice U)) (hi : ByteInfo P U) (h1 : k <= n) (h2 : n <= ca) :
  ∃ D, (∀ w : World, (Instr.slice t (.slice A n ca) (some (.int .i64 (k : Int))) none none).run P w = .ok (.slice D (n - k) (ca - k)) w) /\ (∀ (W : World) (l : List UInt8), l.length = n -> Rd W A l -> Rd W D (l.drop k)) /\ ∀ ad, D = some ad -> ∃ ad', A = some ad' /\ ad'.block = ad.block := by
 obtain ⟨i, hi0, hz, hs, hb⟩ := info_parts hi
 have he : P.elem t = U := by simp [Program.elem, ht]
 have ht' : P.underlying t = some (.slice (P.elem t)) := by rw [he]; exact ht
 refine ⟨if ca = k then A else A.map (·.add (k * 1)), fun w => ?_, fun W l hl hr => ?_, fun ad e => ?_⟩
 ·rw [run_slice_l w t A n ca ht' .i64 (k : Int) (by omega) (by omega), he]
  simp [sizeOf, typeInfo, hi0, hs, sliced]
 ·by_cases h : ca = k
  ·have : l.drop k = [] := List.drop_eq_nil_of_le (by omega)
   rw [this]
   exact Rd.nil _ _
  ·rw [if_neg h, Nat.mul_one]
   intro hne
   obtain ⟨b, o, e, hc⟩ := hr (by intro e; subst e; simp at hne)
   subst e
   refine ⟨b, o + k, by unfold Addr.add; simp, fun i hi' => ?_⟩
   rw [List.getElem_drop, Nat.add_assoc]
   exact hc (k + i) (by rw [List.length_drop] at hi'; omega)
 ·split at e
  ·exact ⟨ad, e, rfl⟩
  ·rcases A with _ | x
   ·cases e
   ·refine ⟨x, rfl, ?_⟩
    have e2 : x.add (k * 1) = ad := Option.some.inj e
    rw [<- e2]
    unfold Addr.add
    split <;> rfl
def lenV : Value -> Nat
 | .slice _ n _ => n
 | _ => 0
theorem write_any (g : Nat) (l : List UInt8) (A : Option Addr) (n c : Nat) (b : List UInt8) (w : World) (hrun : IsRun w g l) (hb : b.length = n) (hcap : n <= c) (hmc : c <= 9223372036854775807) (hr : Rd w A b) (hne : ∀ ad, A = some ad -> b ≠ [] -> ad.block ≠ g) (hmax : l.length + n <= 1099511627776) :
  Calls Tryz.prog 151 #[.pointer (some ⟨g, 0, none⟩), .slice A n c] w fun e w' => e = .returned (.int .i64 0) /\ IsRun w' g (l ++ b) /\ w.grownBy w' (some g) := by
 have HB := Lib.hid hb
 have HRUN := Lib.hid hrun
 have HNE := Lib.hid hne
 clear hb hne
 go_enter Tryz.func151, Tryz.ntmps151
 go_wp2_with (first | (go_at_call 175; refine (none_no g l _ hrun).mono ?_; rintro e w' ⟨rfl, rfl⟩))
 clear hrun
 go_loopw [1, 5, 6] (fun s _ _ wr => ∃ (j : Nat) (Aj : Option Addr) (cj : Nat), j <= n /\ s = .slice Aj (n - j) cj /\ n - j <= cj /\ cj <= 9223372036854775807 /\ Rd wr Aj (b.drop j) /\ (∀ ad, Aj = some ad -> b.drop j ≠ [] -> ad.block ≠ g) /\ IsRun wr g (l ++ b.take j) /\ w.grownBy wr (some g)) (fun s _ _ _ => lenV s)
 case atStart => exact ⟨0, A, c, by omega, rfl, by omega, by omega, by simpa using hr, by simpa using HNE.out, by simpa using HRUN.out, grown_refl _ _⟩
 case round =>
  obtain ⟨j, Aj, cj, hj, rfl, hcj, hmj, hrj, hnj, hrn, hgj⟩ := hrel
  clear hr
  obtain ⟨q, hq⟩ : ∃ q, l ++ b.take j = q := ⟨_, rfl⟩
  obtain ⟨bj, hbj⟩ : ∃ q, b.drop j = q := ⟨_, rfl⟩
  have hbl : bj.length = n - j := by rw [<- hbj, List.length_drop, HB.out]
  have hql : q.length = l.length + j := by rw [<- hq, List.length_append, List.length_take, HB.out]; omega
  rw [hq] at hrn
  rw [hbj] at hrj hnj
  obtain ⟨m, hm⟩ : ∃ m, n - j = m := ⟨_, rfl⟩
  rw [hm] at hbl hcj ⊢
  by_cases h0 : 0 < m
  ·obtain ⟨p, hp, hpl, hrow⟩ := hrn
   obtain ⟨at_, hat⟩ : ∃ a, q.length % 64 = a := ⟨_, rfl⟩
   obtain ⟨k, hk⟩ : ∃ k, min m (64 - at_) = k := ⟨_, rfl⟩
   have hc72 := (hrow.cell 72).trans (runC_get72 _ _ _ hp)
   have hf72 := hrow.frozen 72
   rw [hat] at hpl
   have hat64 : at_ < 64 := by omega
   have hqb : q.length <= 1099511627776 := by omega
   have hqi : ((q.length : Nat) : Int) % 64 = (at_ : Int) := by omega
   obtain ⟨came, hcame⟩ : ∃ c, q.length = c := ⟨_, rfl⟩
   rw [hcame] at hc72 hqb hqi hrow
   have HQ := Lib.hid hcame
   have HK := Lib.hid hk
   have HQQ := Lib.hid hq
   have HBJ := Lib.hid hbj
   have HM := Lib.hid hm
   have HQL := Lib.hid hql
   have HAT := Lib.hid hat
   have HPL := Lib.hid hpl
   clear hcame hk hq hbj hm hql hat hpl
   have hsl := fun w' : World => sliceArr (g := g) (o := 8) (i := (at_ : Int)) rfl hat64 w'
   have hkm : k <= m := by have := HK.out; omega
   have hk64 : at_ + k <= 64 := by have := HK.out; omega
   obtain ⟨D, hslD, hDr, hDa⟩ := run_slice_from2 (P := Tryz.prog) (A := Aj) Tryz.underlying60 (info5 : ByteInfo Tryz.prog 5) hkm hcj
   have HDR := Lib.hid hDr
   have HDA := Lib.hid hDa
   obtain ⟨p2, hp2⟩ : ∃ p2, p.take at_ ++ (bj.take k ++ p.drop (at_ + k)) = p2 := ⟨_, rfl⟩
   have hbk : (bj.take k).length = k := by rw [List.length_take, hbl]; omega
   have hp2l : p2.length = 64 := by rw [<- hp2]; simp only [List.length_append, List.length_take, List.length_drop, hp, hbl]; omega
   have hpart := runC_part (Sha.state q) p (bj.take k) came at_ hp (by rw [hbk]; exact hk64)
   rw [hbk, hp2] at hpart
   have hcm := runC_came (Sha.state q) p2 came (came + k) hp2l
   have hjn : bj.drop k = b.drop (j + k) := by rw [<- HBJ.out, List.drop_drop]
   have hqn : q ++ bj.take k = l ++ b.take (j + k) := by rw [<- HQQ.out, List.append_assoc, <- HBJ.out, List.take_add]
   have hqbl : (q ++ bj.take k).length = came + k := by rw [List.length_append, hbk, HQ.out]
   have HPART := Lib.hid hpart
   have HCM := Lib.hid hcm
   have HJN := Lib.hid hjn
   have HQN := Lib.hid hqn
   have HQBL := Lib.hid hqbl
   have HP2 := Lib.hid hp2
   have HBK := Lib.hid hbk
   have hcb : came + k <= 1099511627776 := by have := HM.out; have := HQL.out; have := HQ.out; omega
   clear hDr hDa hp2 hbk hpart hcm hjn hqn hqbl
   by_cases h64 : at_ + k = 64
   ·have hb64 : (((at_ : Int) + (k : Int)) == 64) = true := by rw [beq_iff_eq]; omega
    have hstf := Sha.state_full q (bj.take k) (by rw [HBK.out, HAT.out]; exact h64)
    have hp2f : p2 = Sha.left q ++ bj.take k := by rw [<- HP2.out, h64, List.drop_eq_nil_of_le (by omega), List.append_nil, HPL.out]
    rw [<- hp2f] at hstf
    have HSTF := Lib.hid hstf
    have H64 := Lib.hid h64
    clear hstf hp2f h64
    go_upto_region 9 with (first
     | (refine wpList_copy_rd rfl (.tmp 21) (.tmp 22) 60 60 rfl 5 Tryz.underlying60 (by kernel_rfl) g (8 + at_) (64 - at_) (64 - at_) Aj m cj bj hbl hrj (by rfl) (by rfl) _ _ hrow k HK.out (by rw [runC_size _ _ _ hp]; have := HK.out; omega) ?_; intro w2 hrow2 hg2; rw [HPART.out] at hrow2; have hc72' := (hrow2.cell 72).trans (runC_get72 _ _ _ hp2l); have hf72' := hrow2.frozen 72))
    have hrow3 := hrow2.set 72 (intV (came + k))
    rw [HCM.out] at hrow3
    have hg3 := grown_trans hg2 (grown_set w2 g 72 (intV (came + k)))
    have hrd3 := HDR.out wr bj hbl hrj
    have hne3 : ∀ ad, D = some ad -> bj.drop k ≠ [] -> ad.block ≠ g := fun ad e hd => by
     obtain ⟨ad', e', eb⟩ := HDA.out ad e
     rw [<- eb]
     exact hnj ad' e' (fun e2 => hd (by rw [e2]; simp))
    have hne4 : ∀ bb oo, D = some ⟨bb, oo, none⟩ -> bj.drop k ≠ [] -> some bb ≠ some g := fun bb oo e hd he => hne3 _ e hd (Option.some.inj he)
    have hrd4 := hrd3.grown hg3 hne4
    rw [show ((came : Int) + (k : Int)) = ((came + k : Nat) : Int) from by omega]
    generalize w2.setCell ⟨g, 72, none⟩ (intV (came + k)) = w3 at *
    refine (wpIn_wide (n := 0)).1 ?_
    refine wpIn_region_last wide_wide [Pr.eq (.pointer (some ⟨g, 0, none⟩)), Pr.eq (.pointer (some ⟨g, 0, none⟩)), Pr.eq (.pointer (some ⟨g, 0, none⟩)), Pr.eq (.pointer (some ⟨g, 0, none⟩)), Pr.eq (.pointer (some ⟨g, 0, none⟩)), Pr.eq (.pointer (some ⟨g, 8, none⟩)), Pr.eq (.slice (some ⟨g, 8, none⟩) 64 64)] (by kernel_rfl) (by kernel_rfl) (by kernel_rfl) (by kernel_rfl) (by kernel_rfl) (by kernel_rfl) rfl ⟨?_, ?_, ?_, ?_, ?_, ?_, ?_, trivial⟩ ?_
    ·exact fun ac W hL he => stepOk_want rfl (op_move rfl (he.k 0))
    ·exact fun ac W hL he => stepOk_want rfl (op_nil rfl (he.g 0 39) rfl)
    ·exact fun ac W hL he => stepOk_want rfl (op_fieldAddr rfl (he.g 1 40) fieldR0 rfl)
    ·exact fun ac W hL he => stepOk_want rfl (op_move rfl (he.k 0))
    ·exact fun ac W hL he => stepOk_want rfl (op_nil rfl (he.g 3 42) rfl)
    ·exact fun ac W hL he => stepOk_want rfl (op_fieldAddr rfl (he.g 4 43) fieldR1 rfl)
    ·exact fun ac W hL he => stepOk_want rfl (op_slice (W' := W) rfl (he.g 5 44) (rfl : _ = none) (rfl : _ = none) rfl (sliceAll W) rfl)
    ·intro xs w4 hL4 hx hk hg
     have e1 := hg 2 41 (by decide) (by kernel_rfl)
     have e2 := hg 6 45 (by decide) (by kernel_rfl)
     have v1 : xs 2 = .pointer (some ⟨g, 0, none⟩) := hx 2 (by decide)
     have v2 : xs 6 = .slice (some ⟨g, 8, none⟩) 64 64 := hx 6 (by decide)
     rw [v1] at e1
     rw [v2] at e2
     have hrow4 := hrow3.later hL4
     clear hx hk hg v1 v2
     refine last_callF (vs := #[.pointer (some ⟨g, 0, none⟩), .slice (some ⟨g, 8, none⟩) 64 64]) rfl (by simp only [List.map_toArray, List.map_cons, List.map_nil, e1, e2]) (enters_of Tryz.func176 (by kernel_rfl) rfl) ?_
     refine (block_any g 0 253 _ (Sha.state q) (some ⟨g, 8, none⟩) 64 p2 w4 hp2l (by omega) (by omega) (runC_rd hp2l hrow4) hrow4 (fun i hi => runC_state _ _ _ i hi)).mono ?_
     rintro e w5 ⟨rfl, hrow5, hg5⟩
     refine ⟨_, rfl, ?_⟩
     rw [runC_st, <- HSTF.out.1] at hrow5
     have hgA : wr.grownBy w5 (some g) := grown_trans hg3 (grown_trans (later_grown hL4 g) hg5)
     have hrd5 := (hrd4.later hL4).grown hg5 hne4
     have hir : IsRun w5 g (q ++ bj.take k) := ⟨p2, hp2l, by rw [HSTF.out.2, HQBL.out, show (came + k) % 64 = 0 from by have := HAT.out; have := HQ.out; have := H64.out; omega]; rfl, by rw [HQBL.out]; exact hrow5⟩
     rw [HQN.out] at hir
     rw [HJN.out] at hrd5 hne3
     clear hne4
     have hgB := grown_trans hgj hgA
     clear e1 e2 hrow2 hg2 hc72' hf72' hrow3 hg3 hrd3 hrd4 hrow4 hrow5 hg5 hgA
     simp only [initL, lastL, putL, Nat.reduceAdd, Act.put, List.setIfInBounds_toArray, List.set_cons_succ, List.set_cons_zero]
     go_wp2_with fail
     go_roundw
     case rel => exact ⟨j + k, D, cj - k, by have := HM.out; omega, by rw [show n - (j + k) = m - k from by have := HM.out; omega], by have := HM.out; omega, by omega, hrd5, hne3, hir, hgB⟩
     case measure => simp [lenV]; have := HK.out; omega
   ·have hb64 : (((at_ : Int) + (k : Int)) == 64) = false := by rw [beq_eq_false_iff_ne]; omega
    have hstf := Sha.state_part q (bj.take k) (by rw [HBK.out, HAT.out]; omega)
    have hkm' : k = m := by have := HK.out; omega
    have hp2f : p2.take (at_ + k) = Sha.left q ++ bj.take k := by
     rw [<- HP2.out, HPL.out, List.take_append, List.take_append, Sha.left_len, HAT.out, HBK.out]
     rw [List.take_of_length_le (by rw [Sha.left_len, HAT.out]; omega), List.take_of_length_le (l := bj.take k) (by rw [HBK.out]; omega), show at_ + k - at_ - k = 0 from by omega, List.take_zero, List.append_nil]
    have H64 := Lib.hid h64
    have HSTF := Lib.hid hstf
    have HP2F := Lib.hid hp2f
    have HKM := Lib.hid hkm'
    clear hstf hp2f h64 hkm'
    have hne3 : ∀ ad, D = some ad -> bj.drop k ≠ [] -> ad.block ≠ g := fun ad e hd => by
     obtain ⟨ad', e', eb⟩ := HDA.out ad e
     rw [<- eb]
     exact hnj ad' e' (fun e2 => hd (by rw [e2]; simp))
    have hne4 : ∀ bb oo, D = some ⟨bb, oo, none⟩ -> bj.drop k ≠ [] -> some bb ≠ some g := fun bb oo e hd he => hne3 _ e hd (Option.some.inj he)
    have HN3 := Lib.hid hne3
    have HN4 := Lib.hid hne4
    have hrd3 := HDR.out wr bj hbl hrj
    clear hne3 hne4
    go_wp2_with (first
     | (refine wpList_copy_rd rfl (.tmp 21) (.tmp 22) 60 60 rfl 5 Tryz.underlying60 (by kernel_rfl) g (8 + at_) (64 - at_) (64 - at_) Aj m cj bj hbl hrj (by rfl) (by rfl) _ _ hrow k HK.out (by rw [runC_size _ _ _ hp]; have := HK.out; omega) ?_; intro w2 hrow2 hg2; rw [HPART.out] at hrow2; have hc72' := (hrow2.cell 72).trans (runC_get72 _ _ _ hp2l); have hf72' := hrow2.frozen 72))
    have hrow3 := hrow2.set 72 (intV (came + k))
    rw [HCM.out] at hrow3
    have hg3 := grown_trans hg2 (grown_set w2 g 72 (intV (came + k)))
    have hrd4 := hrd3.grown hg3 HN4.out
    have hne3 := HN3.out
    have hgB := grown_trans hgj hg3
    have hir : IsRun (w2.setCell ⟨g, 72, none⟩ (intV (came + k))) g (q ++ bj.take k) := ⟨p2, hp2l, by rw [HSTF.out.2, HQBL.out, show (came + k) % 64 = at_ + k from by have := HAT.out; have := HQ.out; have := H64.out; omega]; exact HP2F.out, by rw [HSTF.out.1, HQBL.out]; exact hrow3⟩
    rw [HQN.out] at hir
    rw [HJN.out] at hrd4 hne3
    rw [show ((came : Int) + (k : Int)) = ((came + k : Nat) : Int) from by omega]
    go_roundw
    case rel => exact ⟨j + k, D, cj - k, by have := HM.out; omega, by rw [show n - (j + k) = m - k from by have := HM.out; omega], by have := HM.out; omega, by omega, hrd4, hne3, hir, hgB⟩
    case measure => simp [lenV]; have := HK.out; omega
  ·obtain rfl : m = 0 := by omega
   have hjn : j = n := by omega
   subst hjn
   rw [<- hq, List.take_of_length_le (by rw [HB.out]; omega)] at hrn
   clear hq hbj hbl hql hrj hnj
   go_wp2
   go_ret
   exact ⟨rfl, hrn, hgj⟩
theorem told_val (n i : Nat) : (n : Int) / 2 ^ (8 * i) % 256 = ((UInt8.ofNat (n / 256 ^ i)).toNat : Int) := by
 rw [UInt8.toNat_ofNat', show (2 : Int) ^ (8 * i) = ((256 ^ i : Nat) : Int) from by rw [Int.pow_mul, Int.natCast_pow]; rfl]
 omega
theorem told_take (n many i : Nat) (h : i < many) : (Sha.told n many).take (many - i) = (Sha.told n many).take (many - (i + 1)) ++ [UInt8.ofNat (n / 256 ^ i)] := by
 rw [show many - i = (many - (i + 1)) + 1 from by omega, List.take_succ_eq_append_getElem (by rw [Sha.told_len]; omega)]
 congr 2
 simp only [Sha.told, List.getElem_map, List.getElem_range]
 congr 3
 omega
theorem told_any (n many : Nat) (w : World) (hn : n < 18446744073709551616) (hm : many <= 8) :
  Calls Tryz.prog 178 #[.int .u64 (n : Int), .int .i64 (many : Int)] w fun e w' => ∃ v, e = .returned v /\ Own 5 w' w.heap.size v (Sha.told n many) /\ Below w.heap.size w w' := by
 go_enter Tryz.func178, Tryz.ntmps178
 go_wp2
 go_loopw [4, 5] (fun v t wr => ∃ r : Nat, r <= many /\ t = .int .i64 ((r : Int) - 1) /\ Own 5 wr w.heap.size v ((Sha.told n many).take (many - r)) /\ Below w.heap.size w wr) (fun _ t _ => (intOf t + 1).toNat)
 case atStart => exact ⟨many, by omega, rfl, by rw [Nat.sub_self]; exact Own.nil _ _ _, Below.refl _ _⟩
 case round =>
  obtain ⟨r, hk, rfl, hown, hb⟩ := hrel
  rcases r with _ | i
  ·rw [Nat.sub_zero, List.take_of_length_le (by rw [Sha.told_len]; omega)] at hown
   go_wp2
   go_ret
   exact ⟨_, rfl, hown, hb⟩
  ·rw [show (((i + 1 : Nat) : Int) - 1) = (i : Int) from by omega]
   have HN := Lib.hid (told_take n many i (by omega))
   have hlen : ((Sha.told n many).take (many - (i + 1))).length <= 8 := by rw [List.length_take, Sha.told_len]; omega
   generalize (Sha.told n many).take (many - (i + 1)) = acc at *
   go_wp2_with (first
    | (at_builtin; refine wpList_append_bytes rfl (.tmp 12) (.tmp 18) 60 rfl w.heap.size 5 Tryz.underlying60 (info5 : ByteInfo Tryz.prog 5) _ acc rfl (hown.alloc _) (some ⟨wr.heap.size, 0, none⟩) 1 1 [UInt8.ofNat (n / 256 ^ i)] rfl rfl (Rd.byte1 ?hz) (by omega) (by have := hb.size; simp; omega) ?_; rotate_left; intro v2 w2 hown2 hg2 hat2))
   case hz => exact told_val n i
   go_roundw
   case rel => exact ⟨i, by omega, rfl, by rw [HN.out]; exact hown2, (hb.alloc hb.size _).grown hg2 (by have := hb.size; simp; omega) (fun j hj => (hown.at_ j hj).1)⟩
   case measure => simp [intOf]
theorem eqg_mul {T : TypeId} {x y : Operand} {vx vy : Value} {P : Program} {W : World} : (eqGuard .mul T x y vx vy).run P W = .ok () W := rfl
theorem mulI4 {k : Nat} {W : World} (h : k < 8) : (binOp .mul 3 (.int .i64 4) (.int .i64 (k : Int))).run Tryz.prog W = .ok (.int .i64 ((4 * k : Nat) : Int)) W := by
 have h1 : (binOp .mul 3 (.int .i64 4) (.int .i64 (k : Int))).run Tryz.prog W = .ok (.int .i64 (IntKind.i64.wrap (4 * (k : Int)))) W := by kernel_rfl
 rw [h1, IntWalk.i64_in _ (by omega)]
 congr 2
theorem conv32 (x : BitVec 32) (W : World) : (convert 174 193 (.int .u32 (x.toNat : Int))).run Tryz.prog W = .ok (.int .u64 (x.toNat : Int)) W := by
 have hx := x.isLt
 go_simp
 simp [IntKind.wrap, IntKind.bits, IntKind.signed]
 omega
theorem told4_any (n : Nat) (w : World) (hn : n < 18446744073709551616) : Calls Tryz.prog 178 #[.int .u64 (n : Int), .int .i64 4] w fun e w' => ∃ v, e = .returned v /\ Own 5 w' w.heap.size v (Sha.told n 4) /\ Below w.heap.size w w' := told_any n 4 w hn (by decide)
theorem told8_any (n : Nat) (w : World) (hn : n * 8 < 18446744073709551616) : Calls Tryz.prog 178 #[.int .u64 ((n : Int) * 8), .int .i64 8] w fun e w' => ∃ v, e = .returned v /\ Own 5 w' w.heap.size v (Sha.told (n * 8) 8) /\ Below w.heap.size w w' := told_any (n * 8) 8 w hn (by decide)
theorem sliceH {g a : Nat} (h : a < 32) (W : World) : (Instr.sliceAt 25 (.pointer (some ⟨g, 0, none⟩)) (some (.int .i64 (a : Int))) none none).run Tryz.prog W = .ok (.slice (some ⟨g, a, none⟩) (32 - a) (32 - a)) W := by
 obtain ⟨i, hi0, hz, hs, hb⟩ := info_parts info5
 have h1 : (a : Int) <= 32 := by omega
 have h2 : (0 : Int) <= (a : Int) := by omega
 have h3 : ¬ 32 = a := by omega
 simp [Instr.sliceAt, run_underlying Tryz.underlying25, Instr.sliceBounds, Instr.sliceBound, asIntOf, h1, h2, h3, sizeOf, typeInfo, hi0, hs]
 rw [show (Instr.sureAddr (Value.pointer (some ⟨g, 0, none⟩))).run Tryz.prog W = .ok ⟨g, 0, none⟩ W from rfl]
 simp only [Result.andThen_ok]
 rw [if_pos (by omega)]
 simp [Addr.add]
 intro h0
 exact h0.symm
def preC (x : Sha.St) (k : Nat) : List UInt8 := ((x.list.take k).map fun w => Sha.told w.toNat 4).flatten
theorem preC_succ (x : Sha.St) (k : Nat) (h : k < 8) : preC x (k + 1) = preC x k ++ Sha.told (x.get k).toNat 4 := by
 unfold preC
 have hl : x.list.length = 8 := rfl
 rw [List.take_succ_eq_append_getElem (by omega), List.map_append, List.flatten_append]
 have : x.list[k]'(by omega) = x.get k := by
  have : ∀ k : Fin 8, x.list[k.val]'(by rw [hl]; exact k.isLt) = x.get k.val := by
   intro k
   match k with
   | 0 => rfl
   | 1 => rfl
   | 2 => rfl
   | 3 => rfl
   | 4 => rfl
   | 5 => rfl
   | 6 => rfl
   | 7 => rfl
  exact this ⟨k, h⟩
 rw [this]
 simp
theorem preC_len (x : Sha.St) : ∀ k, k <= 8 -> (preC x k).length = 4 * k
 | 0, _ => rfl
 | k + 1, h => by rw [preC_succ x k (by omega), List.length_append, preC_len x k (by omega), Sha.told_len]; omega
theorem preC_all (x : Sha.St) : preC x 8 = Sha.toldSt x := rfl
def z74 : Array Value := (List.replicate 8 (Value.int .u32 0) ++ (List.replicate 64 (Value.int .u8 0) ++ [Value.int .i64 0, Value.bool false])).toArray
theorem infoR : (Tryz.prog.info? 253).map (·.size) = some 74 := by kernel_rfl
theorem allocR (w : World) : (Instr.alloc 253 true (.tuple #[])).run Tryz.prog w = .ok (.pointer (some ⟨w.heap.size, 0, none⟩)) (w.alloc (.cells z74 253)) := by kernel_rfl
theorem loadR {w : World} {g : Nat} {x : Sha.St} {p : List UInt8} {n : Nat} (hp : p.length = 64) (h : Row w g 253 (runC x p n)) : (Instr.loadAt 253 (.pointer (some ⟨g, 0, none⟩))).run Tryz.prog w = .ok (.agg (runC x p n)) w := by
 have := run_loadAt_mid (P := Tryz.prog) w g 0 253 (runC x p n).toList _ (h.range 0 _ fun j v hv => by rw [Nat.zero_add, <- Array.getElem?_toList]; exact hv) Tryz.underlying253 rfl (by rw [Array.length_toList, runC_size x p n hp]; exact infoR)
 rwa [Array.toArray_toList] at this
theorem storeR {x : Sha.St} {p : List UInt8} {n : Nat} (hp : p.length = 64) (w : World) : (Instr.storeAt 253 (.pointer (some ⟨w.heap.size, 0, none⟩)) (.agg (runC x p n))).run Tryz.prog (w.alloc (.cells z74 253)) = .ok () (w.alloc (.cells (runC x p n) 253)) :=
 run_storeAt_new w 253 z74 (runC x p n) (by rw [runC_size x p n hp]; exact infoR) (by rw [runC_size x p n hp]; rfl) (runC_one x p n)
theorem runSum_any (g : Nat) (l : List UInt8) (w : World) (hrun : IsRun w g l) (hmax : l.length <= 1000000000) :
  Calls Tryz.prog 154 #[.pointer (some ⟨g, 0, none⟩)] w fun e w' => e = .returned (.agg (hC (Sha.sum l))) /\ Below w.heap.size w w' := by
 obtain ⟨p, hp, hpl, hrow⟩ := id hrun
 have hgl := hrow.lt
 obtain ⟨came, hcame⟩ : ∃ c, l.length = c := ⟨_, rfl⟩
 rw [hcame] at hrow hmax
 obtain ⟨z, hz⟩ : ∃ z, Sha.noughts came = z := ⟨_, rfl⟩
 have hzi : (119 - (came : Int) % 64) % 64 = (z : Int) := by rw [<- hz]; unfold Sha.noughts; omega
 have HZI := Lib.hid hzi
 have hz63 : z <= 63 := by rw [<- hz]; unfold Sha.noughts; omega
 have HR := Lib.hid hrun
 have HC := Lib.hid hcame
 have HZ := Lib.hid hz
 have HPL := Lib.hid hpl
 have hc72 := (hrow.cell 72).trans (runC_get72 _ _ _ hp)
 clear hrun hcame hz hpl hzi
 go_enter Tryz.func154, Tryz.ntmps154
 go_upto_region 3 with (first
  | (with_reducible refine wpList_alloc rfl 25 rfl (allocH _) ?_)
  | (go_at_call 175; refine (none_no g l _ (HR.out.later ((Later.refl w).alloc _))).mono ?_; rintro e w' ⟨rfl, rfl⟩))
 obtain ⟨bh, hbh⟩ : ∃ y, y = w.heap.size := ⟨_, rfl⟩
 rw [<- hbh]
 have hrh : Row (w.alloc (.cells (hC []) 25)) bh 25 (hC []) := by rw [hbh]; exact Row.new w _ _
 have hb1 : Below w.heap.size w (w.alloc (.cells (hC []) 25)) := below_new w _
 have hL1 : Later w (w.alloc (.cells (hC []) 25)) := (Later.refl w).alloc _
 have hrow1 := hrow.later hL1
 have hz1 : (w.alloc (.cells (hC []) 25)).heap.size = bh + 1 := by rw [hbh]; simp only [World.size_alloc]
 have HBH := Lib.hid hbh
 have HZ1 := Lib.hid hz1
 clear hbh hz1 hc72
 generalize w.alloc (.cells (hC []) 25) = w1 at *
 go_cut [3] (fun q W => ∃ ge, q = .pointer (some ⟨ge, 0, none⟩) /\ IsRun W ge l /\ w1.heap.size <= ge /\ Later w1 W)
 case first =>
  go_wp2_with (first
   | (refine wpList_load rfl 253 (.tmp 11) rfl (.pointer (some ⟨g, 0, none⟩)) rfl (loadR hp hrow1) ?_)
   | (with_reducible refine wpList_alloc rfl 253 rfl (allocR _) ?_)
   | (refine wpList_store rfl 253 (.tmp 3) (.tmp 12) rfl (.pointer (some ⟨w1.heap.size, 0, none⟩)) (.agg (runC (Sha.state l) p came)) rfl rfl (storeR hp _) ?_))
  go_meet
  exact ⟨w1.heap.size, rfl, ⟨p, hp, HPL.out, by rw [HC.out]; exact Row.new w1 _ _⟩, Nat.le_refl _, (Later.refl w1).alloc _⟩
 case rest =>
  obtain ⟨ge, rfl, hie, hge, hLe⟩ := hcut
  obtain ⟨w2, rfl⟩ : ∃ y, y = wc := ⟨_, rfl⟩
  have hge2 := hie.lt
  have hrow2 := hrow1.later hLe
  have hc72 := (hrow2.cell 72).trans (runC_get72 _ _ _ hp)
  obtain ⟨ad, cz, wz, hrunz, hrdz, hcz1, hcz2, hLz, hbz⟩ := append_z (P := Tryz.prog) (w2.alloc (.cells #[byteV 128] 5)) w2.heap.size 128 60 3 60 5 .i64 Tryz.underlying60 Tryz.underlying3 (info5 : ByteInfo Tryz.prog 5) (Row.new w2 _ _) z (by omega)
  have hL2z : Later w2 wz := ((Later.refl w2).alloc _).step hLz
  have hadge : ad.block ≠ ge := by
   have h := World.size_alloc w2 (.cells #[byteV 128] 5)
   rcases hbz with h' | h' <;> omega
  rw [<- HZI.out, show byteV 128 = Value.int .u8 128 from rfl] at hrunz
  clear hLz hbz
  unfold maxLen at hcz2
  go_wp2_with (first
   | (at_builtin; (refine Lib.wpList_append_run _ rfl (.tmp 20) (.tmp 21) 60 3 rfl (.slice (some ⟨w2.heap.size, 0, none⟩) 1 1) (.int .i64 ((119 - (came : Int) % 64) % 64)) (by rfl) (by rfl) _ _ hrunz ?_)))
  have hzl : (128 :: List.replicate z (0 : UInt8)).length = 1 + z := by simp; omega
  refine (write_any ge l (some ad) (1 + z) cz (128 :: List.replicate z 0) wz (hie.later hL2z) hzl hcz1 hcz2 hrdz (fun a' e _ => by cases e; exact hadge) (by rw [HC.out]; omega)).mono ?_
  rintro e w5 ⟨rfl, hi5, hg5⟩
  have hneg : g ≠ ge := by have := HZ1.out; have := HBH.out; omega
  have hneh : bh ≠ ge := by have := HZ1.out; omega
  have hrow5 := (hrow2.later hL2z).grown hg5 (fun e => hneg (by injection e))
  have hrh5 := ((hrh.later hLe).later hL2z).grown hg5 (fun e => hneh (by injection e))
  have hbe : w.heap.size <= ge := by have := HZ1.out; have := HBH.out; omega
  have hb5 : Below w.heap.size w w5 := ((hb1.trans (hLe.mono hb1.size)).trans (hL2z.mono (by have := hLe.size; have := hb1.size; omega))).grown hg5 (by have := hLe.size; have := hb1.size; have := hL2z.size; omega) (fun j e => by cases e; exact hbe)
  have hc72' := (hrow5.cell 72).trans (runC_get72 _ _ _ hp)
  have hadge5 := hi5.lt
  clear hie hL2z hrdz hrunz hcz1 hcz2 hg5 hadge hzl hc72
  go_wp2_with fail
  refine (told8_any came _ (by omega)).mono ?_
  rintro e w6 ⟨v6, rfl, hown6, hb6⟩
  obtain ⟨A6, c6, rfl, _, hm6, hrd6⟩ := hown6.slice
  have hA6 : ∀ a', A6 = some a' -> Sha.told (came * 8) 8 ≠ [] -> a'.block ≠ ge := fun a' e _ => by
   have := (hown6.at_ a'.block (by rw [e]; rfl)).1
   omega
  rw [Sha.told_len] at *
  unfold maxLen at hm6
  have hpadl : (l ++ 128 :: List.replicate z (0 : UInt8)) ++ Sha.told (came * 8) 8 = Sha.padded l := by
   unfold Sha.padded
   rw [HC.out, HZ.out]
   rfl
  have HPAD := Lib.hid hpadl
  clear hpadl
  go_wp2_with fail
  refine (write_any ge (l ++ 128 :: List.replicate z 0) A6 8 c6 (Sha.told (came * 8) 8) w6 (hi5.later hb6) (Sha.told_len _ _) (by omega) (by omega) hrd6 hA6 (by simp only [List.length_append, List.length_cons, List.length_replicate, HC.out]; omega)).mono ?_
  rintro e w7 ⟨rfl, hi7, hg7⟩
  rw [HPAD.out] at hi7
  have hrh7 := (hrh5.later hb6).grown hg7 (fun e => hneh (by injection e))
  have hb7 : Below w.heap.size w w7 := (hb5.trans (hb6.mono hb5.size)).grown hg7 (by have := hb5.size; have := Below.size hb6; omega) (fun j e => by cases e; exact hbe)
  have hs7 : bh < w7.heap.size := hrh7.lt
  have hs7w : w.heap.size <= bh := by have := HBH.out; omega
  obtain ⟨p7, hp7, _, hrow7⟩ := hi7
  have hld7 := loadS (o := 0) hrow7 (fun i hi => runC_state _ _ _ i hi)
  obtain ⟨y, hy⟩ : ∃ y, Sha.state (Sha.padded l) = y := ⟨_, rfl⟩
  rw [hy] at hld7
  have hsum : Sha.sum l = preC y 8 := by rw [<- hy]; rfl
  have HSUM := Lib.hid hsum
  have h00 : hC (preC y 0) = hC [] := rfl
  have H00 := Lib.hid h00
  clear hy hsum h00 hi5 hrow7 hp7 hrd6 hown6 hrh5 hrow5 hrow2 hrow1 hc72' hA6 hb5 hb6 hg7
  go_upto_region 7 with fail
  go_wp2_with (first | (refine wpList_load rfl 195 (.tmp 33) rfl (.pointer (some ⟨ge, 0, none⟩)) rfl hld7 ?_))
  go_loopw [5, 6, 35] (fun _ _ t wr => ∃ k : Nat, k <= 8 /\ t = .int .i64 k /\ Row wr bh 25 (hC (preC y k)) /\ Below w.heap.size w wr) (fun _ _ t _ => 8 - (intOf t).toNat)
  case atStart => exact ⟨0, by omega, rfl, by rw [H00.out]; exact hrh7, hb7⟩
  case round =>
   obtain ⟨k, hk, rfl, hrk, hbk⟩ := hrel
   clear hld7 hrh7 hb7
   by_cases hlt : k < 8
   ·have hix := fun w' : World => idxAgg (W := w') hlt (stC_get y 0 k hlt)
    rw [show (k + 0) % 8 = k from by omega] at hix
    have hpl := preC_len y k (by omega)
    have hnx := preC_succ y k hlt
    have HNX := Lib.hid hnx
    have HPLK := Lib.hid hpl
    have hk32 : 4 * k < 32 := by omega
    clear hnx hpl
    obtain ⟨xk, hxk⟩ : ∃ v, y.get k = v := ⟨_, rfl⟩
    rw [hxk] at hix
    have HXK := Lib.hid hxk
    clear hxk
    have hx64 : xk.toNat < 18446744073709551616 := by have := xk.isLt; omega
    have hxl := xk.isLt
    go_upto_region 10 with fail
    refine (wpIn_wide (n := 0)).1 ?_
    refine wpIn_region_last wide_wide [Pr.eq (.int .i64 (k : Int)), Pr.eq (.int .i64 ((4 * k : Nat) : Int)), Pr.eq (.slice (some ⟨bh, 4 * k, none⟩) (32 - 4 * k) (32 - 4 * k)), Pr.eq (.int .u32 (xk.toNat : Int)), Pr.eq (.int .u64 (xk.toNat : Int)), Pr.rd 4 (Sha.told xk.toNat 4)] (by kernel_rfl) (by kernel_rfl) (by kernel_rfl) (by kernel_rfl) (by kernel_rfl) (by kernel_rfl) rfl ⟨?_, ?_, ?_, ?_, ?_, ?_, trivial⟩ ?_
    ·exact fun ac W hL he => stepOk_want rfl (op_move rfl (he.k 5))
    ·exact fun ac W hL he => stepOk_want rfl (op_binOp rfl rfl (he.g 0 39) eqg_mul (mulI4 hlt) rfl)
    ·exact fun ac W hL he => stepOk_want rfl (op_slice (W' := W) rfl (he.k 2) (congrArg some (he.g 1 40)) (rfl : _ = none) rfl ((sliceH hk32) W) rfl)
    ·exact fun ac W hL he => stepOk_want rfl (op_move rfl (he.k 6))
    ·exact fun ac W hL he => stepOk_want rfl (op_convert rfl (he.g 3 42) (conv32 xk W) (Later.refl _) rfl)
    ·intro ac W hL he; refine stepOk_want rfl ?_; have e0 : ac.eval (.tmp 43) = (.int .u64 (xk.toNat : Int)) := (he.g 4 43); exact op_callF (vs := #[.int .u64 (xk.toNat : Int), .int .i64 4]) rfl (by simp only [List.map_toArray, List.map_cons, List.map_nil, e0]; rfl) (enters_of Tryz.func178 (by kernel_rfl) rfl) ((told4_any xk.toNat W hx64).mono fun e W' ⟨v, he', hown, hb⟩ => ⟨v, he', hb, by obtain ⟨A', c', rfl, hc', _, hr'⟩ := hown.slice; exact ⟨A', c', by rw [Sha.told_len], by rw [Sha.told_len] at hc'; exact hc', hr'⟩⟩)
    ·intro xs w9 hL9 hx hk hg
     have e1 := hg 2 41 (by decide) (by kernel_rfl)
     have e2 := hg 5 44 (by decide) (by kernel_rfl)
     have v1 : xs 2 = .slice (some ⟨bh, 4 * k, none⟩) (32 - 4 * k) (32 - 4 * k) := hx 2 (by decide)
     obtain ⟨A9, c9, v2, _, hrd9⟩ : ∃ A c, xs 5 = .slice A 4 c /\ 4 <= c /\ Rd w9 A (Sha.told xk.toNat 4) := hx 5 (by decide)
     rw [v1] at e1
     rw [v2] at e2
     have hrk9 := hrk.later hL9
     have hbk9 : Below w.heap.size w w9 := hbk.trans (hL9.mono hbk.size)
     clear hx hk hg v1 v2
     refine ⟨op_copy_rd (.tmp 41) (.tmp 44) 60 60 rfl 5 Tryz.underlying60 (by kernel_rfl) bh (4 * k) (32 - 4 * k) (32 - 4 * k) A9 4 c9 (Sha.told xk.toNat 4) (Sha.told_len _ _) hrd9 e1 e2 _ _ hrk9 4 (by omega) (by rw [hC_size _ (by rw [HPLK.out]; omega)]; omega) ?_⟩
     intro w10 hrow10 hg10
     rw [List.take_of_length_le (by rw [Sha.told_len]; omega)] at hrow10
     have hcp := hC_copy (preC y k) (Sha.told xk.toNat 4) (by rw [HPLK.out, Sha.told_len]; omega)
     rw [HPLK.out, <- HXK.out, <- HNX.out] at hcp
     rw [<- HXK.out, hcp] at hrow10
     have hb10 := hbk9.grown hg10 hbk9.size (fun j e => by cases e; exact hs7w)
     clear hcp e1 e2 hrk9 hrd9 hg10
     simp only [initL, lastL, putL, Nat.reduceAdd, Act.put, List.setIfInBounds_toArray, List.set_cons_succ, List.set_cons_zero]
     go_wp2_with fail
     go_roundw
     case rel => exact ⟨k + 1, by omega, by go_num, hrow10, hb10⟩
     case measure => simp [intOf]; omega
   ·obtain rfl : k = 8 := by omega
    rw [<- HSUM.out] at hrk
    have hsz := hC_size (Sha.sum l) (by rw [Sha.sum_len]; omega)
    have hldh : (Instr.loadAt 25 (.pointer (some ⟨bh, 0, none⟩))).run Tryz.prog wr = .ok (.agg (hC (Sha.sum l))) wr := by
     have := run_loadAt_mid (P := Tryz.prog) wr bh 0 25 (hC (Sha.sum l)).toList _ (hrk.range 0 _ fun j v hv => by rw [Nat.zero_add, <- Array.getElem?_toList]; exact hv) Tryz.underlying25 rfl (by rw [Array.length_toList, hsz]; exact infoH)
     rwa [Array.toArray_toList] at this
    go_wp2_with (first
     | (refine wpList_load rfl 25 (.tmp 2) rfl (.pointer (some ⟨bh, 0, none⟩)) rfl hldh ?_)
     | (refine wpList_store rfl 25 (.tmp 2) (.tmp 47) rfl (.pointer (some ⟨bh, 0, none⟩)) (.agg (hC (Sha.sum l))) rfl rfl (run_store_row hrk (hC (Sha.sum l)) (by rw [hsz]; exact infoH) (by rw [hsz]; omega) (hC_one _)) ?_))
    have hr2 := row_setCells (hC (Sha.sum l)).toList 0 wr _ hrk
    rw [setFrom_whole _ _ (by rw [Array.length_toList]), Array.toArray_toList] at hr2
    refine bodyPost_ret (results_cell_row rfl _ _ bh 25 (hC (Sha.sum l)) (0, 0) _ rfl hr2 Tryz.underlying25 rfl (by rw [hsz]; exact infoH)) rfl ⟨rfl, hbk.grown (grown_setCells _ _ _) hbk.size (fun j e => by cases e; exact hs7w)⟩
end Go.Proofs.YtloiaaolnfimgaaGreat
