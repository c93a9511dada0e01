/- Walks, msgs: what kinds ask besides. -/
import Derived.Test.YtcajhdmppfiaeaaGreatGk11
set_option linter.unusedVariables false
set_option linter.unusedSimpArgs false
namespace Go.Proofs.YtcajhdmppfiaeaaGreat
open Go.RowKit Ms
theorem rAny_any (s : Said) (hs : s.wf) (w : World) : Calls Tryz.prog 73 #[.agg (saidC s)] w fun e w' => e = .returned (.bool true) ∧ Later w w' := by
  have hb := below_new w (.cells (saidC s) 29)
  have hbx := boxSaid hs w
  go_enter Tryz.func73, Tryz.ntmps73
  go_wp2
  go_ret
  exact ⟨rfl, hb⟩
theorem rCoded_any (s : Said) (hs : s.wf) (w : World) : Calls Tryz.prog 74 #[.agg (saidC s)] w fun e w' => e = .returned (.bool (inB s.code 1 999)) ∧ Later w w' := by
  have k1 := Row.new w 29 (saidC s)
  have hb := below_new w (.cells (saidC s) 29)
  have hbx := boxSaid hs w
  have hin := fun W => min_any s.code 1 999 W
  have HIN := Lib.hid hin
  clear hin
  go_enter Tryz.func74, Tryz.ntmps74
  go_upto_region 1 with fail
  obtain ⟨g, hg⟩ : ∃ q, q = w.heap.size := ⟨_, rfl⟩
  rw [← hg] at k1 ⊢
  clear hbx hg
  generalize w.alloc (.cells (saidC s) 29) = w1 at *
  have c1 : w1.cell? ⟨g, 300, none⟩ = some (.int .i64 s.code) := (k1.cell _).trans (saidC_n hs 11 (by decide))
  go_wp2_with (first
    | (go_at_call 34; refine (HIN.out _).mono ?_; rintro e w6 ⟨rfl, rfl⟩)
    | fail)
  go_ret
  exact ⟨rfl, hb⟩
theorem rFund_any (s : Said) (hs : s.wf) (w : World) : Calls Tryz.prog 84 #[.agg (saidC s)] w fun e w' => e = .returned (.bool (decide (s.index < 24))) ∧ Later w w' := by
  have k1 := Row.new w 29 (saidC s)
  have hb := below_new w (.cells (saidC s) 29)
  have hbx := boxSaid hs w
  go_enter Tryz.func84, Tryz.ntmps84
  go_upto_region 1 with fail
  obtain ⟨g, hg⟩ : ∃ q, q = w.heap.size := ⟨_, rfl⟩
  rw [← hg] at k1 ⊢
  clear hbx hg
  generalize w.alloc (.cells (saidC s) 29) = w1 at *
  have c1 : w1.cell? ⟨g, 298, none⟩ = some (.int .i64 s.index) := (k1.cell _).trans (saidC_n hs 9 (by decide))
  go_wp2_with fail
  go_ret
  exact ⟨rfl, hb⟩
def addB (s : Said) : Bool := decide (0 < s.amount) && decide (0 < s.expiry) && decide (s.route.length ≤ 512)
theorem rAdd_any (s : Said) (hs : s.wf) (hm : s.route.length ≤ 9223372036854775807) (w : World) : Calls Tryz.prog 85 #[.agg (saidC s)] w fun e w' => e = .returned (.bool (addB s)) ∧ Later w w' := by
  have k1 := Row.new w 29 (saidC s)
  have hb := below_new w (.cells (saidC s) 29)
  have hbx := boxSaid hs w
  unfold addB
  obtain ⟨b1, h1⟩ : ∃ b, decide (0 < s.amount) = b := ⟨_, rfl⟩
  obtain ⟨b2, h2⟩ : ∃ b, decide (0 < s.expiry) = b := ⟨_, rfl⟩
  obtain ⟨b3, h3⟩ : ∃ b, decide (s.route.length ≤ 512) = b := ⟨_, rfl⟩
  rw [h1, h2, h3]
  have h3' : decide ((s.route.length : Int) ≤ 512) = b3 := by rw [← h3]; exact decide_eq_decide.2 (by omega)
  go_enter Tryz.func85, Tryz.ntmps85
  go_upto_region 1 with fail
  obtain ⟨g, hg⟩ : ∃ q, q = w.heap.size := ⟨_, rfl⟩
  rw [← hg] at k1 ⊢
  clear hbx hg
  generalize w.alloc (.cells (saidC s) 29) = w1 at *
  have c1 : w1.cell? ⟨g, 103, none⟩ = some (.int .i64 s.amount) := (k1.cell _).trans (saidC_n hs 6 (by decide))
  have c2 : w1.cell? ⟨g, 299, none⟩ = some (.int .i64 s.expiry) := (k1.cell _).trans (saidC_n hs 10 (by decide))
  have c3 : w1.cell? ⟨g, 301, none⟩ = some (.string ⟨s.route.toArray⟩) := (k1.cell _).trans (saidC_route hs)
  have hsz : (⟨s.route.toArray⟩ : ByteArray).size = s.route.length := by simp [ByteArray.size]
  cases b1
  · go_wp2_with fail
    go_ret
    exact ⟨rfl, hb⟩
  · cases b2
    · go_wp2_with fail
      go_ret
      exact ⟨rfl, hb⟩
    · go_wp2_with fail
      go_ret
      exact ⟨rfl, hb⟩
def specialK (k : Int) (s : Said) : Bool :=
  if k = 1 then mopenB s else if k = 3 then decide (s.index < 24) else if k = 6 then addB s else if k = 8 ∨ k = 14 then inB s.code 1 999 else true
theorem special_eq (s : Said) : special s = specialK s.kind s := by
  unfold special specialK mopenB addB inB
  rfl
theorem kRight_any (k : Int) (s : Said) (hs : s.wf) (hm : s.route.length ≤ 9223372036854775807) (w : World) : Calls Tryz.prog (kRight k) #[.agg (saidC s)] w fun e w' => e = .returned (.bool (specialK k s)) ∧ Later w w' := by
  by_cases h1 : k = 1
  · subst h1; exact mopen_any s hs w
  by_cases h2 : k = 2
  · subst h2; exact rAny_any s hs w
  by_cases h3 : k = 3
  · subst h3; exact rFund_any s hs w
  by_cases h4 : k = 4
  · subst h4; exact rAny_any s hs w
  by_cases h5 : k = 5
  · subst h5; exact rAny_any s hs w
  by_cases h6 : k = 6
  · subst h6; exact rAdd_any s hs hm w
  by_cases h7 : k = 7
  · subst h7; exact rAny_any s hs w
  by_cases h8 : k = 8
  · subst h8; exact rCoded_any s hs w
  by_cases h14 : k = 14
  · subst h14; exact rCoded_any s hs w
  have e1 : kRight k = 73 := by
    unfold kRight
    simp [h1, h2, h3, h4, h5, h6, h7, h8, h14]
  have e2 : specialK k s = true := by
    unfold specialK
    simp [h1, h2, h3, h4, h5, h6, h7, h8, h14]
  rw [e1, e2]
  exact rAny_any s hs w
def Ent (F : FuncId) : Prop := ∀ (args : Array Value) (w : World), (callFunc F args).run Tryz.prog w = .ok (.enter F args) w
theorem kRight_ent (k : Int) : Ent (kRight k) := by
  have e0 : Ent 73 := enters_of Tryz.func73 (by kernel_rfl) rfl
  by_cases h1 : k = 1
  · subst h1; exact enters_of Tryz.func76 (by kernel_rfl) rfl
  by_cases h3 : k = 3
  · subst h3; exact enters_of Tryz.func84 (by kernel_rfl) rfl
  by_cases h6 : k = 6
  · subst h6; exact enters_of Tryz.func85 (by kernel_rfl) rfl
  by_cases h8 : k = 8
  · subst h8; exact enters_of Tryz.func74 (by kernel_rfl) rfl
  by_cases h14 : k = 14
  · subst h14; exact enters_of Tryz.func74 (by kernel_rfl) rfl
  have e1 : kRight k = 73 := by
    unfold kRight
    simp [h1, h3, h6, h8, h14]
  rw [e1]
  exact e0
theorem kRight_enters (k : Int) (args : Array Value) (w : World) : (callFunc (kRight k) args).run Tryz.prog w = .ok (.enter (kRight k) args) w := kRight_ent k args w
end Go.Proofs.YtcajhdmppfiaeaaGreat
