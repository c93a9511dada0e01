/- Walks: try, told by what the reader holds afterwards; the reader's Truth, End, Left. -/
import Derived.Test.YtmipaacobioakaaOrder6
set_option linter.unusedVariables false
set_option linter.unusedSimpArgs false
namespace Go.Proofs.Ytmipaacobioakaa
open Go.RowKit
def Wr.tried (l l1 : List UInt8) (bad : Bool) (ahead : Int) (ok : Bool) : (List UInt8 × Bool) × Int :=
  if bad then ((l, true), 140) else if ahead ≠ 0 then ((l, false), ahead) else if ok then ((l1, false), 0) else ((l, true), 140)
def Wr.took (bad : Bool) (ahead : Int) (ok : Bool) : Bool := !bad && decide (ahead = 0) && ok
theorem Moved.same {W W' : World} {g : Nat} {A : Option Addr} {l l' : List UInt8} {bad : Bool} {p : Nat → Prop} (h : Moved W g A l l' bad) (hs : Same p W W') (hp : p g) : Moved W' g A l l' bad := by
  obtain ⟨D, c, h1, h2⟩ := h
  exact ⟨D, c, h1.same hs hp, h2⟩
set_option maxRecDepth 100000 in
theorem try_moved (g : Nat) (A : Option Addr) (n c : Nat) (l l1 : List UInt8) (bad : Bool) (ahead : Int) (F : FuncId) (caps : Array Value) (W : World) (hr : Row W g 47 (rdC A n c true bad)) (hn : l.length = n) (hc : n ≤ c) (hcm : c ≤ 9223372036854775807)
    (q4 : Nat) (hq4 : q4 < W.heap.size) (R0 R1 : World → Prop) (h0 : R0 W) (hR0 : ∀ X Y, R0 X → Same (fun k => k < W.heap.size ∧ k ≠ g) X Y → R0 Y) (hR1 : ∀ X Y, R1 X → Same (fun k => k < W.heap.size ∧ k ≠ g) X Y → R1 Y) (hen : ∀ w, (callFunc F caps).run Try.prog w = .ok (.enter F caps) w) (ok : Bool)
    (hcl : bad = false → ahead = 0 → ∀ W1, Below W.heap.size W W1 → Calls Try.prog F caps W1 fun e W' => Same (fun k => k < W1.heap.size ∧ k ≠ g ∧ k ≠ q4) W1 W' ∧ ((ok = true ∧ e = .returned (.tuple #[]) ∧ R1 W' ∧ Moved W' g A l l1 false) ∨ (ok = false ∧ e = .panicked lacksP ∧ R0 W' ∧ ∃ D n' c', Row W' g 47 (rdC D n' c' true false)))) :
    Calls Try.prog 47 #[.pointer (some ⟨g, 0, none⟩), .int .i64 ahead, .func (Fn.func F) #[] caps] W fun e W' => Same (fun k => k < W.heap.size ∧ k ≠ g ∧ k ≠ q4) W W' ∧ e = .returned (.int .i64 (Wr.tried l l1 bad ahead ok).2) ∧ Moved W' g A l (Wr.tried l l1 bad ahead ok).1.1 (Wr.tried l l1 bad ahead ok).1.2 ∧ (Wr.took bad ahead ok = true → R1 W') ∧ (Wr.took bad ahead ok = false → R0 W') := by
  have hg := hr.lt
  subst hn
  refine (try_any g A l.length c bad ahead F caps W hr (fun k => k < W.heap.size ∧ k ≠ g ∧ k ≠ q4) (fun k h => ⟨h.1, h.2.1⟩) hen (fun W' => ok = false ∧ R0 W') (fun X Y h hs => ⟨h.1, hR0 X Y h.2 hs⟩) (fun W' => ok = true ∧ R1 W' ∧ Moved W' g A l l1 false) (fun X Y h hs => ⟨h.1, hR1 X Y h.2.1 (hs.mono fun k h => h.1), h.2.2.same hs hg⟩) (fun hb ha W1 hb1 => ?_)).mono ?_
  · have hsz := hb1.size
    refine (hcl hb ha W1 hb1).mono ?_
    rintro e W' ⟨hs, h⟩
    refine ⟨hs.mono (fun k h => ?_), ?_⟩
    · rcases h with h | h
      · exact ⟨by omega, h.2.1, h.2.2⟩
      · exact ⟨h.2, by omega, by omega⟩
    · rcases h with ⟨ho, rfl, h1, h2⟩ | ⟨ho, rfl, h1, h2⟩
      · exact .inl ⟨rfl, ho, h1, h2⟩
      · exact .inr ⟨rfl, ⟨ho, h1⟩, h2⟩
  · have hid : ∀ X : World, Below W.heap.size W X → ∀ b, bad = b → Moved X g A l l b := fun X hX b e => ⟨A, c, by rw [← e]; exact hr.later hX, hc, hcm, fun _ h => h⟩
    rintro e W' ⟨hs, ⟨rfl, rfl, hb⟩ | ⟨rfl, ha, rfl, hb⟩ | ⟨rfl, rfl, ⟨rfl, rfl, h1, h2⟩ | ⟨⟨rfl, h1⟩, rfl, h2⟩⟩⟩
    · exact ⟨hs, rfl, hid _ hb _ rfl, fun h => by simp [Wr.took] at h, fun _ => hR0 _ _ h0 ((Same.of_below hb).mono fun k h => h.1)⟩
    · have e1 : Wr.tried l l1 false ahead ok = ((l, false), ahead) := by simp [Wr.tried, ha]
      rw [e1]
      exact ⟨hs, rfl, hid _ hb _ rfl, fun h => by simp [Wr.took, ha] at h, fun _ => hR0 _ _ h0 ((Same.of_below hb).mono fun k h => h.1)⟩
    · exact ⟨hs, rfl, h2, fun _ => h1, fun h => by simp [Wr.took] at h⟩
    · exact ⟨hs, rfl, ⟨A, c, h2, hc, hcm, fun _ h => h⟩, fun h => by simp [Wr.took] at h, fun _ => h1⟩
theorem left_any (g : Nat) (l : List UInt8) (bad : Bool) (w : World) (hr : IsRd w g l bad) : Calls Try.prog 18 #[.pointer (some ⟨g, 0, none⟩)] w fun e w' => w' = w ∧ e = .returned (.int .i64 (l.length : Int)) := by
  obtain ⟨A, c, hrow, _⟩ := hr
  have hc : w.cell? ⟨g, 0, none⟩ = some (.slice A l.length c) := (hrow.cell 0).trans rfl
  go_enter Try.func18, Try.ntmps18
  go_wp2_with (first
    | (go_at_call 46; refine (rnone_yes g A l.length c true bad _ hrow).mono ?_; rintro e w2 ⟨rfl, rfl⟩)
    | fail)
  go_ret
  exact ⟨rfl, rfl⟩
/-- The closure of End. -/
theorem endFn_any (g q1 : Nat) (T1 : TypeId) (A : Option Addr) (n c : Nat) (w : World) (hr : Row w g 47 (rdC A n c true false)) (k1 : Row w q1 T1 #[.pointer (some ⟨g, 0, none⟩)]) :
    Calls Try.prog 56 #[.pointer (some ⟨q1, 0, none⟩)] w fun e w' => w' = w ∧ ((n = 0 ∧ e = .returned (.tuple #[])) ∨ (n ≠ 0 ∧ e = .panicked lacksP)) := by
  have c1 : w.cell? ⟨q1, 0, none⟩ = some (.pointer (some ⟨g, 0, none⟩)) := (k1.cell 0).trans rfl
  have hc : w.cell? ⟨g, 0, none⟩ = some (.slice A n c) := (hr.cell 0).trans rfl
  by_cases hne : n = 0
  · have hd : ((n : Int) == 0) = true := by simp; omega
    go_enter Try.func56, Try.ntmps56
    go_wp2_with (first
      | (go_at_call 53; refine (must_any _ _).mono ?_; rintro e w2 ⟨rfl, rfl⟩)
      | fail)
    go_end0
    exact ⟨rfl, .inl ⟨hne, rfl⟩⟩
  · have hd : ((n : Int) == 0) = false := by simp; omega
    go_enter Try.func56, Try.ntmps56
    go_wp2_with (first
      | (go_at_call 53; refine (must_any _ _).mono ?_; rintro e w2 ⟨rfl, rfl⟩)
      | fail)
    exact ⟨rfl, rfl, .inr ⟨hne, rfl⟩⟩
def Wr.endR (l : List UInt8) (bad : Bool) : (List UInt8 × Bool) × Int := if bad || !l.isEmpty then ((l, true), 140) else ((l, false), 0)
theorem Wr.endR_eq (l : List UInt8) (bad : Bool) : Wr.tried l [] bad 0 l.isEmpty = Wr.endR l bad := by
  cases bad <;> cases l <;> simp [Wr.tried, Wr.endR]
theorem end_any (g : Nat) (l : List UInt8) (bad : Bool) (w : World) (hr : IsRd w g l bad) :
    Calls Try.prog 23 #[.pointer (some ⟨g, 0, none⟩)] w fun e w' => Same (fun k => k < w.heap.size ∧ k ≠ g) w w' ∧ e = .returned (.int .i64 (Wr.endR l bad).2) ∧ IsRd w' g (Wr.endR l bad).1.1 (Wr.endR l bad).1.2 := by
  obtain ⟨A, c, hrow, hc, hcm, hd⟩ := hr
  have hmf : ∀ (fn : Fn) (first cap : Array Value) (w : World), (Instr.makeFunc fn first cap).run Try.prog w = .ok (.func fn first cap) w := fun _ _ _ _ => rfl
  have k1 := Row.new w 37 #[.pointer (some ⟨g, 0, none⟩)]
  have kg := hrow.alloc (.cells #[.pointer (some ⟨g, 0, none⟩)] 37)
  have hb := below_new w (.cells #[.pointer (some ⟨g, 0, none⟩)] 37)
  have HRW := Lib.hid hrow
  clear hrow
  go_enter Try.func23, Try.ntmps23
  go_upto_region 1 with fail
  obtain ⟨q1, hq1⟩ : ∃ q, q = w.heap.size := ⟨_, rfl⟩
  rw [← hq1] at k1 ⊢
  have HQ := Lib.hid hq1
  clear hq1
  generalize w.alloc (.cells #[.pointer (some ⟨g, 0, none⟩)] 37) = w1 at *
  have c1 : w1.cell? ⟨q1, 0, none⟩ = some (.pointer (some ⟨g, 0, none⟩)) := (k1.cell 0).trans rfl
  have htry := try_moved g A l.length c l [] bad 0 _ #[.pointer (some ⟨q1, 0, none⟩)] w1 kg rfl hc hcm g kg.lt (fun _ => True) (fun _ => True) trivial (fun _ _ _ _ => trivial) (fun _ _ _ _ => trivial) (enters_of Try.func56 (by kernel_rfl) rfl _) l.isEmpty (fun hbad _ W1 hb1 => by
    subst hbad
    refine (endFn_any g q1 _ A l.length c W1 (kg.later hb1) (k1.later hb1)).mono ?_
    rintro e W' ⟨rfl, h⟩
    refine ⟨Same.refl _ _, ?_⟩
    rcases h with ⟨h, rfl⟩ | ⟨h, rfl⟩
    · have e0 : l = [] := List.eq_nil_of_length_eq_zero h
      subst e0
      exact .inl ⟨rfl, rfl, trivial, A, c, kg.later hb1, hc, hcm, fun _ h => h⟩
    · exact .inr ⟨by cases l <;> simp at h ⊢, rfl, trivial, A, l.length, c, kg.later hb1⟩)
  rw [Wr.endR_eq] at htry
  go_wp2_with (first
    | (go_at_call 47; refine htry.mono ?_; clear htry; rintro e w2 ⟨hs, rfl, hm, _, _⟩)
    | fail)
  go_ret
  have hs0 : Same (fun k => k < w.heap.size ∧ k ≠ g) w w2 := ((Same.of_below hb).mono (fun k h => h.1)).trans (hs.mono (fun k h => ⟨Nat.lt_of_lt_of_le h.1 hb.size, h.2, h.2⟩))
  exact ⟨hs0, rfl, hm.isRd (rd_same_g HRW.out hd hs0)⟩
end Go.Proofs.Ytmipaacobioakaa
