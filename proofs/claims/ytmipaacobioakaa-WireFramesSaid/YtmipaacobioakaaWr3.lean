/- Walks: try. -/
import Derived.Test.YtmipaacobioakaaWr2
set_option linter.unusedVariables false
set_option linter.unusedSimpArgs false
namespace Go.Proofs.Ytmipaacobioakaa
open Go.RowKit
set_option maxRecDepth 100000 in
set_option maxHeartbeats 1000000 in
theorem try_any (g : Nat) (A : Option Addr) (n c : Nat) (bad : Bool) (ahead : Int) (F : FuncId) (caps : Array Value) (w : World) (hr : Row w g 47 (rdC A n c true bad)) (p : Nat → Prop) (hp : ∀ k, p k → k < w.heap.size ∧ k ≠ g) (hen : ∀ w, (callFunc F caps).run Try.prog w = .ok (.enter F caps) w) (N : World → Prop) (hNN : ∀ W W', N W → Same (fun k => k < w.heap.size ∧ k ≠ g) W W' → N W') (T : World → Prop) (hT : ∀ W W', T W → Same (fun k => k < w.heap.size) W W' → T W')
    (hcl : bad = false → ahead = 0 → ∀ W, Below w.heap.size w W → Calls Try.prog F caps W fun e W' => Same (fun k => p k ∨ (w.heap.size ≤ k ∧ k < W.heap.size)) W W' ∧ ((e = .returned (.tuple #[]) ∧ T W') ∨ (e = .panicked lacksP ∧ N W' ∧ ∃ D n' c', Row W' g 47 (rdC D n' c' true false)))) :
    Calls Try.prog 47 #[.pointer (some ⟨g, 0, none⟩), .int .i64 ahead, .func (Fn.func F) #[] caps] w fun e W' => Same p w W' ∧ ((bad = true ∧ e = .returned (.int .i64 140) ∧ Below w.heap.size w W') ∨ (bad = false ∧ ahead ≠ 0 ∧ e = .returned (.int .i64 ahead) ∧ Below w.heap.size w W') ∨ (bad = false ∧ ahead = 0 ∧ ((e = .returned (.int .i64 0) ∧ T W') ∨ (N W' ∧ e = .returned (.int .i64 140) ∧ Row W' g 47 (rdC A n c true true))))) := by
  have hmf : ∀ (fn : Fn) (first cap : Array Value) (w : World), (Instr.makeFunc fn first cap).run Try.prog w = .ok (.func fn first cap) w := fun _ _ _ _ => rfl
  have k3 := (Row.new w 37 #[.pointer (some ⟨g, 0, none⟩)]).alloc (.cells #[.int .i64 0] 26)
  have k6 := Row.new (w.alloc (.cells #[.pointer (some ⟨g, 0, none⟩)] 37)) 26 #[.int .i64 0]
  have kg := (hr.alloc (.cells #[.pointer (some ⟨g, 0, none⟩)] 37)).alloc (.cells #[.int .i64 0] 26)
  have hb := below_new2 w (.cells #[.pointer (some ⟨g, 0, none⟩)] 37) (.cells #[.int .i64 0] 26)
  have hgl := hr.lt
  have HP := Lib.hid hp
  have HT := Lib.hid hT
  have HNN := Lib.hid hNN
  have HCL := Lib.hid hcl
  clear hr hp hT hNN hcl
  go_enter_defers Try.func47, Try.ntmps47
  go_upto_region 1 with fail
  rw [World.size_alloc] at k6
  obtain ⟨q3, hq3⟩ : ∃ q, q = w.heap.size := ⟨_, rfl⟩
  rw [← hq3] at k3 k6 ⊢
  have HQ := Lib.hid hq3
  clear hq3
  generalize (w.alloc (.cells #[.pointer (some ⟨g, 0, none⟩)] 37)).alloc (.cells #[.int .i64 0] 26) = w1 at *
  have h3c : w1.cell? ⟨q3, 0, none⟩ = some (.pointer (some ⟨g, 0, none⟩)) := (k3.cell 0).trans rfl
  have h6c : w1.cell? ⟨q3 + 1, 0, none⟩ = some (.int .i64 0) := (k6.cell 0).trans rfl
  have h6f : w1.frozen? ⟨q3 + 1, 0, none⟩ = false := k6.frozen 0
  have hgc : w1.cell? ⟨g, 2, none⟩ = some (.bool bad) := (kg.cell 2).trans rfl
  cases bad with
  | true =>
    go_wp2_with (first
      | (go_at_call 46; refine (rnone_yes g A n c true true _ kg).mono ?_; rintro e w2 ⟨rfl, rfl⟩)
      | fail)
    have k6' := k6.set 0 (.int .i64 140)
    have hcv : (w2.setCell ⟨q3 + 1, 0, none⟩ (.int .i64 140)).cell? ⟨q3 + 1, 0, none⟩ = some (.int .i64 140) := (k6'.cell 0).trans rfl
    have hb2 : Below w.heap.size w (w2.setCell ⟨q3 + 1, 0, none⟩ (.int .i64 140)) := hb.setCell (by have := HQ.out; show w.heap.size ≤ q3 + 1; omega) _
    exact ⟨_, by simp [results, Try.results47, go_sem, hcv], (Same.of_below hb2).mono (fun k h => (HP.out k h).1), rfl, hb2⟩
  | false =>
    by_cases h0 : ahead = 0
    · subst h0
      have hld := run_load_part (P := Try.prog) (T := 45) (o := 0) (vs := #[.slice A n c]) kg (fun j hj => by rcases j with _ | j; exact rfl; simp at hj) Try.underlying45 rfl infoRest
      go_upto_region 8 with (first
        | (go_at_call 46; refine (rnone_yes g A n c true false _ kg).mono ?_; rintro e w2 ⟨rfl, rfl⟩)
        | (refine wpList_load rfl 45 (.tmp 22) rfl (.pointer (some ⟨g, 0, none⟩)) rfl hld ?_)
        | fail)
      have k7 := Row.new w2 45 #[.slice A n c]
      have k3 := k3.alloc (.cells #[.slice A n c] 45)
      have k6 := k6.alloc (.cells #[.slice A n c] 45)
      have kg := kg.alloc (.cells #[.slice A n c] 45)
      have hb3 := hb.alloc hb.size (.cells #[.slice A n c] 45)
      obtain ⟨q7, hq7⟩ : ∃ q, q = w2.heap.size := ⟨_, rfl⟩
      have h37 : q3 < q7 := by rw [hq7]; have := k6.lt; have := hb.size; have := HQ.out; exact Nat.lt_of_lt_of_le (Nat.lt_succ_self q3) (Nat.le_of_lt_succ (by simp only [World.size_alloc] at *; omega))
      rw [← hq7] at k7 ⊢
      clear hq7 h3c h6c h6f hgc hld hb
      generalize w2.alloc (.cells #[.slice A n c] 45) = w3 at *
      have hcl := HCL.out trivial trivial w3 hb3
      go_upto_region 9 with fail
      go_wp2_with fail
      refine hcl.mono ?_
      clear hcl
      have hq6 : w.heap.size ≤ q3 + 1 ∧ q3 + 1 < w3.heap.size := ⟨by have := HQ.out; omega, k6.lt⟩
      have hq3l : w.heap.size ≤ q3 ∧ q3 < w3.heap.size := ⟨by have := HQ.out; omega, k3.lt⟩
      have hq7l : w.heap.size ≤ q7 ∧ q7 < w3.heap.size := ⟨by have := HQ.out; omega, k7.lt⟩
      rintro e w4 ⟨hs4, ⟨rfl, hT4⟩ | ⟨rfl, hN, D, n', c', kg4⟩⟩
      · have k64 := k6.same hs4 (.inr hq6)
        have h6c : w4.cell? ⟨q3 + 1, 0, none⟩ = some (.int .i64 0) := (k64.cell 0).trans rfl
        have h6f : w4.frozen? ⟨q3 + 1, 0, none⟩ = false := k64.frozen 0
        go_wp2_with fail
        refine leaves_cons (f := 70) (args := #[.pointer (some ⟨q7, 0, none⟩), .pointer (some ⟨q3, 0, none⟩), .pointer (some ⟨q3 + 1, 0, none⟩)]) (by simp) (by simp [go_sem]) ?_
        refine (catch_idle _ _ _ _).mono ?_
        rintro e u' w'' ⟨rfl, rfl, rfl⟩
        have k65 := k64.set 0 (.int .i64 0)
        have hcv : (w4.setCell ⟨q3 + 1, 0, none⟩ (.int .i64 0)).cell? ⟨q3 + 1, 0, none⟩ = some (.int .i64 0) := (k65.cell 0).trans rfl
        have hst : Same (fun k => k < w.heap.size) w4 (w4.setCell ⟨q3 + 1, 0, none⟩ (.int .i64 0)) := (Same.set w4 ⟨q3 + 1, 0, none⟩ (.int .i64 0)).mono (fun k h => by show k ≠ q3 + 1; omega)
        show ∃ v, _ ∧ _
        refine ⟨.int .i64 0, by simp [results, Try.results47, go_sem, hcv], ?_, .inl ⟨rfl, HT.out _ _ hT4 hst⟩⟩
        exact (((Same.of_below hb3).mono (fun k h => (HP.out k h).1)).trans (hs4.mono (fun k h => .inl h))).trans (hst.mono (fun k h => (HP.out k h).1))
      · go_wp2_with fail
        refine leaves_cons (f := 70) (args := #[.pointer (some ⟨q7, 0, none⟩), .pointer (some ⟨q3, 0, none⟩), .pointer (some ⟨q3 + 1, 0, none⟩)]) (by simp) (by simp [go_sem]) ?_
        refine (catch_panicking q3 (q3 + 1) q7 g 37 A n c [] w4 0 D n' c' false (k7.same hs4 (.inr hq7l)) (k3.same hs4 (.inr hq3l)) (k6.same hs4 (.inr hq6)) kg4 (by omega)).mono ?_
        rintro e u' w'' ⟨rfl, rfl, k6', kg', hs'⟩
        have hcv : w''.cell? ⟨q3 + 1, 0, none⟩ = some (.int .i64 140) := (k6'.cell 0).trans rfl
        show ∃ v, _ ∧ _
        refine ⟨.int .i64 140, by simp [results, Try.results47, go_sem, hcv], ?_, .inr ⟨HNN.out _ _ hN (hs'.mono (fun k h => ⟨by have := hs4.size; have := hb3.size; omega, h.2, by have := h.1; omega⟩)), rfl, kg'⟩⟩
        exact (((Same.of_below hb3).mono (fun k h => (HP.out k h).1)).trans (hs4.mono (fun k h => .inl h))).trans (hs'.mono (fun k h => ⟨by have := (HP.out k h).1; have := hs4.size; have := hb3.size; omega, (HP.out k h).2, by have := (HP.out k h).1; omega⟩))
    · have hd : decide (ahead = 0) = false := decide_eq_false h0
      go_wp2_with (first
        | (go_at_call 46; refine (rnone_yes g A n c true false _ kg).mono ?_; rintro e w2 ⟨rfl, rfl⟩)
        | fail)
      have k6' := k6.set 0 (.int .i64 ahead)
      have hcv : (w2.setCell ⟨q3 + 1, 0, none⟩ (.int .i64 ahead)).cell? ⟨q3 + 1, 0, none⟩ = some (.int .i64 ahead) := (k6'.cell 0).trans rfl
      have hb2 : Below w.heap.size w (w2.setCell ⟨q3 + 1, 0, none⟩ (.int .i64 ahead)) := hb.setCell (by have := HQ.out; show w.heap.size ≤ q3 + 1; omega) _
      exact ⟨_, by simp [results, Try.results47, go_sem, hcv], (Same.of_below hb2).mono (fun k h => (HP.out k h).1), rfl, hb2⟩
end Go.Proofs.Ytmipaacobioakaa
