/- Walks, msgs: numbers that are looked for; money.Check; a kind looked up. -/
import Derived.Test.YtcajhdmppfiaeaaGreatGk12
set_option linter.unusedVariables false
set_option linter.unusedSimpArgs false
namespace Go.Proofs.YtcajhdmppfiaeaaGreat
open Go.RowKit Ms
set_option maxRecDepth 100000 in
theorem indexF_any (F : FuncId) (caps : Array Value) (p : Int → Bool) (A : Option Addr) (n c : Nat) (l : List Int) (w : World) (hn : l.length = n) (hm : n ≤ 1000000000) (hr : RdV w A (l.map numV)) (hE : Ent F) (hF : ∀ z, Calls Tryz.prog F (#[.int .i64 z] ++ caps) w fun e w' => w' = w ∧ e = .returned (.bool (p z))) :
    Calls Tryz.prog 90 #[.slice A n c, .func (.func F) #[] caps] w fun e w' => w' = w ∧ ∃ k : Int, e = .returned (.int .i64 k) ∧ decide (0 ≤ k) = l.any p := by
  have HN := Lib.hid hn
  have HF := Lib.hid hF
  have HE := Lib.hid hE
  clear hn hF hE
  go_enter Tryz.func90, Tryz.ntmps90
  go_wp2_with fail
  go_loopw [8] (fun t wr => wr = w ∧ ∃ i : Nat, i ≤ n ∧ t = .int .i64 (i : Int) ∧ (l.take i).any p = false) (fun t _ => n - (intOf t).toNat)
  case atStart => exact ⟨rfl, 0, by omega, rfl, rfl⟩
  case round =>
    obtain ⟨rfl, i, hi, rfl, hany⟩ := hrel
    by_cases hlt : i < n
    · have hd : decide ((i : Int) < (n : Int)) = true := decide_eq_true (by omega)
      have hd' : decide (i < n) = true := decide_eq_true hlt
      have hil : i < l.length := by rw [HN.out]; exact hlt
      obtain ⟨b, o, rfl, hc⟩ := hr.at_ (k := i) (by simpa using hil)
      rw [List.getElem_map] at hc
      have hnx : l.take (i + 1) = l.take i ++ [l[i]] := List.take_succ_eq_append_getElem hil
      have hsp : l = l.take i ++ (l[i] :: l.drop (i + 1)) := by simp
      generalize hx : l[i] = x at *
      have HNX := Lib.hid hnx
      have HSP := Lib.hid hsp
      clear hnx hsp hr hx
      have hcall := HF.out x
      obtain ⟨b0, hb0⟩ : ∃ b, p x = b := ⟨_, rfl⟩
      rw [hb0] at hcall
      have HB := Lib.hid hb0
      clear hb0
      have HCALL := Lib.hid hcall
      clear hcall
      cases b0
      all_goals
        go_wp2_with (first
          | (guard_target =~ wpList _ _ _ (_ :: _) _ _; refine wpList_callV rfl (.tmp 11) #[.tmp 15] _ rfl (f := F) (bound := caps) (vs := #[.int .i64 x]) rfl (by simp only [List.map_toArray, List.map_cons, List.map_nil]; rfl) HE.out rfl ?_; refine HCALL.out.mono ?_; rintro e w2 ⟨rfl, rfl⟩; refine .inl ⟨_, rfl, ?_⟩)
          | fail)
      · go_roundw
        case rel => exact ⟨trivial, i + 1, by omega, by go_num, by rw [HNX.out, List.any_append, hany]; simp [HB.out]⟩
        case measure => simp [intOf]; omega
      · go_ret
        refine ⟨rfl, _, rfl, ?_⟩
        rw [HSP.out]
        simp [HB.out]
    · obtain rfl : i = n := by omega
      have hd : decide ((i : Int) < (i : Int)) = false := decide_eq_false (by omega)
      rw [List.take_of_length_le (by rw [HN.out]; exact Nat.le_refl _)] at hany
      go_wp2_with fail
      go_ret
      exact ⟨rfl, _, rfl, by rw [hany]; rfl⟩
theorem containsF_any (F : FuncId) (caps : Array Value) (p : Int → Bool) (A : Option Addr) (n c : Nat) (l : List Int) (w : World) (hn : l.length = n) (hm : n ≤ 1000000000) (hr : RdV w A (l.map numV)) (hE : Ent F) (hF : ∀ z, Calls Tryz.prog F (#[.int .i64 z] ++ caps) w fun e w' => w' = w ∧ e = .returned (.bool (p z))) :
    Calls Tryz.prog 32 #[.slice A n c, .func (.func F) #[] caps] w fun e w' => w' = w ∧ e = .returned (.bool (l.any p)) := by
  have hi := indexF_any F caps p A n c l w hn hm hr hE hF
  clear hF
  go_enter Tryz.func32, Tryz.ntmps32
  go_wp2_with (first
    | (go_at_call 90; refine hi.mono ?_; clear hi; rintro e w2 ⟨rfl, k, rfl, hk⟩)
    | fail)
  go_ret
  exact ⟨rfl, by rw [← hk]; rfl⟩
theorem wideFn_any (z : Int) (w : World) : Calls Tryz.prog 33 #[.int .i64 z] w fun e w' => w' = w ∧ e = .returned (.bool (!within z)) := by
  have hin := min_any z 0 2147483647 w
  have hw : inB z 0 2147483647 = within z := rfl
  rw [hw] at hin
  generalize within z = b at *
  clear hw
  go_enter Tryz.func33, Tryz.ntmps33
  go_wp2_with (first
    | (go_at_call 34; refine hin.mono ?_; clear hin; rintro e w6 ⟨rfl, rfl⟩)
    | fail)
  go_ret
  exact ⟨rfl, rfl⟩
theorem moneyFn_any (z m : Int) (q : Nat) (w : World) (hq : Row w q 2 #[.int .i64 m]) : Calls Tryz.prog 127 #[.int .i64 z, .pointer (some ⟨q, 0, none⟩)] w fun e w' => w' = w ∧ e = .returned (.bool (decide (z < 0) || decide (m < z))) := by
  have c1 : w.cell? ⟨q, 0, none⟩ = some (.int .i64 m) := (hq.cell 0).trans rfl
  by_cases h : z < 0
  · have hd : decide (z < 0) = true := decide_eq_true h
    rw [hd]
    go_enter Tryz.func127, Tryz.ntmps127
    go_wp2
    go_ret
    exact ⟨rfl, rfl⟩
  · have hd : decide (z < 0) = false := decide_eq_false h
    rw [hd, Bool.false_or]
    obtain ⟨b, hb⟩ : ∃ b, decide (m < z) = b := ⟨_, rfl⟩
    rw [hb]
    go_enter Tryz.func127, Tryz.ntmps127
    go_wp2
    go_ret
    exact ⟨rfl, rfl⟩
set_option maxRecDepth 100000 in
theorem moneyIn_any (A : Option Addr) (n c : Nat) (l : List Int) (m : Int) (w : World) (hn : l.length = n) (hm : n ≤ 1000000000) (hr : RdV w A (l.map numV)) : Calls Tryz.prog 91 #[.int .i64 m, .slice A n c] w fun e w' => e = .returned (.bool (!l.any fun z => decide (z < 0) || decide (m < z))) ∧ Later w w' := by
  have k1 := Row.new w 2 #[.int .i64 m]
  have hb := below_new w (.cells #[.int .i64 m] 2)
  have hmf : ∀ (fn : Fn) (first cap : Array Value) (w : World), (Instr.makeFunc fn first cap).run Tryz.prog w = .ok (.func fn first cap) w := fun _ _ _ _ => rfl
  have hct := containsF_any 127 #[.pointer (some ⟨w.heap.size, 0, none⟩)] (fun z => decide (z < 0) || decide (m < z)) A n c l _ hn hm (hr.later hb) (enters_of Tryz.func127 (by kernel_rfl) rfl) (fun z => moneyFn_any z m _ _ k1)
  generalize (l.any fun z => decide (z < 0) || decide (m < z)) = b at *
  have HCT := Lib.hid hct
  have HB := Lib.hid hb
  clear hct k1 hr hb
  go_enter Tryz.func91, Tryz.ntmps91
  go_wp2_with (first
    | (go_at_call 32; refine HCT.out.mono ?_; rintro e w6 ⟨rfl, rfl⟩)
    | fail)
  go_ret
  exact ⟨rfl, HB.out⟩
theorem moneyCheck_any (A : Option Addr) (c : Nat) (z : Int) (w : World) (hr : RdV w A [numV z]) : Calls Tryz.prog 35 #[.slice A 1 c] w fun e w' => e = .returned (.int .i64 (if amt z then 0 else 2)) ∧ Later w w' := by
  have hin := moneyIn_any A 1 c [z] 1125899906842624 w rfl (by decide) hr
  have hw : (!([z].any fun z => decide (z < 0) || decide (1125899906842624 < z))) = amt z := by
    unfold amt
    simp only [List.any_cons, List.any_nil, Bool.or_false, Bool.not_or, ← decide_not]
    congr 1 <;> exact decide_eq_decide.2 (by omega)
  rw [hw] at hin
  generalize amt z = b at *
  have HIN := Lib.hid hin
  clear hw hin hr
  cases b
  all_goals
    go_enter Tryz.func35, Tryz.ntmps35
    go_wp2_with (first
      | (go_at_call 91; refine HIN.out.mono ?_; rintro e w6 ⟨rfl, hL⟩)
      | fail)
    go_ret
    exact ⟨rfl, hL⟩
end Go.Proofs.YtcajhdmppfiaeaaGreat
