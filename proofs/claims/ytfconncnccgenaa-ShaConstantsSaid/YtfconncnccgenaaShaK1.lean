/- Whether constants are bits of roots, in plain numbers; walks: a number of three words by a word, and held against another one. -/
import Derived.Test.YtfconncnccgenaaShaE
import Derived.Test.YtfconncnccgenaaShelf
import Derived.Laws.Externs
set_option linter.unusedVariables false
set_option linter.unusedSimpArgs false
namespace Go.Proofs.Ytfconncnccgenaa
open Go.RowKit
namespace Root
abbrev M : Nat := 18446744073709551616
structure T3 where
  x : Nat
  y : Nat
  z : Nat
def T3.ok (a : T3) : Prop := a.x < 18446744073709551616 ∧ a.y < 18446744073709551616 ∧ a.z < 18446744073709551616
def s0 (a : T3) (n : Nat) : Nat := a.x * n
def s1 (a : T3) (n : Nat) : Nat := a.y * n + s0 a n / 18446744073709551616
def s2 (a : T3) (n : Nat) : Nat := a.z * n + s1 a n / 18446744073709551616
def times (a : T3) (n : Nat) : T3 := ⟨s0 a n % 18446744073709551616, s1 a n % 18446744073709551616, s2 a n % 18446744073709551616⟩
def atMost (a b : T3) : Bool := if a.z ≠ b.z then decide (a.z < b.z) else if a.y ≠ b.y then decide (a.y < b.y) else if a.x ≠ b.x then decide (a.x < b.x) else true
def powT : Nat → Nat → T3
  | 0, _ => ⟨1, 0, 0⟩
  | k + 1, n => times (powT k n) n
def limit (p power : Nat) : T3 := if power = 3 then times ⟨0, 4294967296, 0⟩ p else times ⟨0, 1, 0⟩ p
def hit (word p power whole : Nat) : Bool := atMost (powT power (whole * 4294967296 + word)) (limit p power) && !atMost (powT power (whole * 4294967296 + word + 1)) (limit p power)
def from_ (word p power : Nat) : Nat → Nat → Bool
  | 0, _ => false
  | f + 1, whole => hit word p power whole || from_ word p power f (whole + 1)
def behind (word p power : Nat) : Bool := from_ word p power 17 1
def primeFrom (p : Nat) : Nat → Nat → Bool → Bool
  | 0, _, b => b
  | f + 1, d, b => if d * d ≤ p then primeFrom p f (d + 1) (b && decide (p % d ≠ 0)) else b
def prime (p : Nat) : Bool := primeFrom p 40 2 true
def rest : Nat → Nat → Nat → Bool
  | 0, _, _ => false
  | f + 1, p, i => if i < 64 then (if prime p then (behind (Sha.kc i).toNat p 3 && (decide (8 ≤ i) || behind (Sha.first.get i).toNat p 2) && rest f (p + 1) (i + 1)) else rest f (p + 1) i) else true
theorem rooted : rest 400 2 0 = true := by decide +kernel
theorem times_ok (a : T3) (n : Nat) : (times a n).ok := ⟨Nat.mod_lt _ (by decide), Nat.mod_lt _ (by decide), Nat.mod_lt _ (by decide)⟩
def T3.get (a : T3) : Nat → Nat
  | 0 => a.x
  | 1 => a.y
  | _ => a.z
def car (a : T3) (n : Nat) : Nat → Nat
  | 0 => 0
  | k + 1 => (a.get k * n + car a n k) / 18446744073709551616
def dg (a : T3) (n k : Nat) : Nat := (a.get k * n + car a n k) % 18446744073709551616
theorem times_dg (a : T3) (n : Nat) : times a n = ⟨dg a n 0, dg a n 1, dg a n 2⟩ := by
  simp only [times, dg, car, T3.get, s0, s1, s2, Nat.add_zero]
theorem get_lt {a : T3} (h : a.ok) (k : Nat) : a.get k < 18446744073709551616 := by
  unfold T3.get
  split
  · exact h.1
  · exact h.2.1
  · exact h.2.2
theorem mul_lt {x y : Nat} (hx : x < 18446744073709551616) (hy : y < 18446744073709551616) : x * y ≤ 340282366920938463426481119284349108225 :=
  Nat.le_trans (Nat.mul_le_mul (show x ≤ 18446744073709551615 by omega) (show y ≤ 18446744073709551615 by omega)) (by decide)
theorem car_lt {a : T3} (h : a.ok) {n : Nat} (hn : n < 18446744073709551616) : ∀ k, car a n k < 18446744073709551616
  | 0 => by unfold car; omega
  | k + 1 => by
    have h1 := car_lt h hn k
    have h2 := mul_lt (get_lt h k) hn
    unfold car
    omega
end Root
theorem wrap64_small {x y : Nat} (h : x + y < 18446744073709551616) : IntKind.u64.wrap ((x : Int) + (y : Int)) = ((x + y : Nat) : Int) := by
  simp [IntKind.wrap, IntKind.bits, IntKind.signed]
  omega
abbrev u64V (n : Nat) : Value := .int .u64 (n : Int)
def c3 (a : Root.T3) : Array Value := #[u64V a.x, u64V a.y, u64V a.z]
theorem c3_get (a : Root.T3) (k : Nat) (h : k < 3) : (c3 a)[k]? = some (u64V (a.get k)) := by
  match k, h with
  | 0, _ => rfl
  | 1, _ => rfl
  | 2, _ => rfl
theorem c3_one (a : Root.T3) : (c3 a).all (·.oneCell') = true := by kernel_rfl
theorem info3r : (Try.prog.info? 95).map (·.size) = some 3 := by kernel_rfl
def z3 : Array Value := #[.int .u64 0, .int .u64 0, .int .u64 0]
theorem alloc3r (w : World) : (Instr.alloc 95 true (.tuple #[])).run Try.prog w = .ok (.pointer (some ⟨w.heap.size, 0, none⟩)) (w.alloc (.cells z3 95)) := by kernel_rfl
theorem add64_run (x y : Nat) (w : World) : (callFunc 62 #[.int .u64 (x : Int), .int .u64 (y : Int), .int .u64 0]).run Try.prog w = .ok (.value (.tuple #[.int .u64 (((x + y) % 18446744073709551616 : Nat) : Int), .int .u64 (((x + y) / 18446744073709551616 : Nat) : Int)])) w := by
  rw [run_callFunc_extern Try.func62 (by kernel_rfl) (by kernel_rfl) (by kernel_rfl) (e := add64Entry) (by kernel_rfl)]
  have h := run_add64 (P := Try.prog) (x : Int) (y : Int) 0 (by omega) (by omega) (by omega) (by omega) w
  rw [h]
  simp only [Result.andThen]
  congr 5 <;> omega
def outC (a : Root.T3) (n k : Nat) : Array Value := fillTo 3 (.int .u64 0) (fun j => u64V (Root.dg a n j)) k
set_option maxRecDepth 100000 in
set_option maxHeartbeats 1000000 in
theorem times_any (a : Root.T3) (n : Nat) (w : World) (ha : a.ok) (hn : n < 18446744073709551616) :
    Calls Try.prog 55 #[.agg (c3 a), .int .u64 (n : Int)] w fun e w' => e = .returned (.agg (c3 (Root.times a n))) ∧ Below w.heap.size w w' := by
  have hb1 := run_box_row (P := Try.prog) w 95 (c3 a) info3r
  have hd0 := Root.times_dg a n
  have HD := Lib.hid hd0
  have HA := Lib.hid ha
  clear ha hd0
  go_enter Try.func55, Try.ntmps55
  go_wp2_with (first
    | (with_reducible refine wpList_box rfl 95 (.tmp 0) rfl (.agg (c3 a)) rfl hb1 ?_)
    | (with_reducible refine wpList_alloc rfl 95 rfl (alloc3r _) ?_)
    | fail)
  obtain ⟨g, hg⟩ : ∃ y, y = w.heap.size := ⟨_, rfl⟩
  rw [← hg]
  have k2 : Row (((w.alloc (.cells (c3 a) 95)).alloc (.cells z3 95)).alloc (.cells z3 95)) g 95 (c3 a) := ((Row.newAt hg.symm).alloc _).alloc _
  have k4 : Row (((w.alloc (.cells (c3 a) 95)).alloc (.cells z3 95)).alloc (.cells z3 95)) (g + 1) 95 z3 := (Row.newAt (by simp only [World.size_alloc]; omega)).alloc _
  have k5 : Row (((w.alloc (.cells (c3 a) 95)).alloc (.cells z3 95)).alloc (.cells z3 95)) (g + 1 + 1) 95 (outC a n 0) := by
    unfold outC
    rw [fillTo_zero]
    exact Row.newAt (by simp only [World.size_alloc]; omega)
  have kb : Below w.heap.size w (((w.alloc (.cells (c3 a) 95)).alloc (.cells z3 95)).alloc (.cells z3 95)) := (((Later.refl w).alloc _).alloc _).alloc _
  have HG := Lib.hid hg
  clear hg hb1
  generalize ((w.alloc (.cells (c3 a) 95)).alloc (.cells z3 95)).alloc (.cells z3 95) = w1 at *
  go_loopw [6, 7] (fun c t wr => ∃ k : Nat, k ≤ 3 ∧ t = .int .i64 k ∧ c = .int .u64 ((Root.car a n k : Nat) : Int) ∧ Row wr g 95 (c3 a) ∧ Row wr (g + 1) 95 z3 ∧ Row wr (g + 1 + 1) 95 (outC a n k) ∧ Below w.heap.size w wr) (fun _ t _ => 3 - (intOf t).toNat)
  case atStart => exact ⟨0, by omega, rfl, rfl, k2, k4, k5, kb⟩
  case round =>
    obtain ⟨k, hk, rfl, rfl, h2, h4, h5, hb⟩ := hrel
    clear k2 k4 k5 kb
    by_cases hlt : k < 3
    · have hc := Root.car_lt HA.out hn k
      have hgl := Root.get_lt HA.out k
      have hml := Root.mul_lt hgl hn
      have hset : (outC a n k).setIfInBounds k (u64V (Root.dg a n k)) = outC a n (k + 1) := fillTo_set _ _ _ _ hlt
      have cx : wr.cell? ⟨g, k, none⟩ = some (.int .u64 ((a.get k : Nat) : Int)) := (h2.cell k).trans (c3_get a k hlt)
      have c5 : wr.cell? ⟨g + 1 + 1, k, none⟩ = some (.int .u64 0) := (h5.cell k).trans ((fillTo_get _ _ _ _ _ hlt).trans (by rw [if_neg (by omega)]))
      have f5 := h5.frozen k
      have hmul := fun w => Try.bits_Mul64 (a.get k) n hgl hn w
      obtain ⟨hi, hhi⟩ : ∃ y, a.get k * n / 18446744073709551616 = y := ⟨_, rfl⟩
      obtain ⟨lo, hlo⟩ : ∃ y, a.get k * n % 18446744073709551616 = y := ⟨_, rfl⟩
      obtain ⟨cy, hcy⟩ : ∃ y, Root.car a n k = y := ⟨_, rfl⟩
      obtain ⟨sm, hsm⟩ : ∃ y, (lo + cy) % 18446744073709551616 = y := ⟨_, rfl⟩
      obtain ⟨cq, hcq⟩ : ∃ y, (lo + cy) / 18446744073709551616 = y := ⟨_, rfl⟩
      have hadd := fun w => add64_run lo cy w
      rw [hsm, hcq] at hadd
      rw [hhi, hlo] at hmul
      have hdg : Root.dg a n k = sm := by unfold Root.dg; rw [hcy]; omega
      have hcn : Root.car a n (k + 1) = hi + cq := by unfold Root.car; rw [hcy]; omega
      have hbd : hi + cq < 18446744073709551616 := by rw [← hcn]; exact Root.car_lt HA.out hn (k + 1)
      rw [hdg] at hset
      rw [hcy]
      have HS := Lib.hid hset
      have HCN := Lib.hid hcn
      have HML := Lib.hid hmul
      have HBD := Lib.hid hbd
      generalize a.get k = ak at *
      clear hset hcn hmul hhi hlo hcy hsm hcq hdg hc hgl hml hbd hn
      go_wp2_with (first | (go_at_call 61; refine (HML.out _).mono ?_; rintro e w3 ⟨rfl, rfl⟩) | fail)
      go_roundw
      case rel => exact ⟨k + 1, by omega, by go_num, by rw [HCN.out, wrap64_small HBD.out], h2.far (by simp; omega) _, h4.far (by simp) _, by rw [← HS.out]; exact h5.set _ _, hb.setCell (by have := HG.out; simp; omega) _⟩
      case measure => simp [intOf]; omega
    · obtain rfl : k = 3 := by omega
      have hall : outC a n 3 = c3 (Root.times a n) := by
        unfold outC
        rw [fillTo_all, HD.out]
        rfl
      rw [hall] at h5
      have hld := run_load_row (P := Try.prog) (T := 95) h5 Try.underlying95 rfl info3r
      obtain ⟨W', hst, hr', hg'⟩ := run_put_row (P := Try.prog) (T := 95) h4 (vs := c3 (Root.times a n)) rfl info3r (c3_one _)
      clear hall HD hn
      go_wp2_with (first
        | (refine wpList_load rfl 95 (.tmp 5) rfl (.pointer (some ⟨g + 1 + 1, 0, none⟩)) rfl hld ?_)
        | (refine wpList_store rfl 95 (.tmp 4) (.tmp 36) rfl (.pointer (some ⟨g + 1, 0, none⟩)) (.agg (c3 (Root.times a n))) rfl rfl hst ?_)
        | fail)
      refine bodyPost_ret (results_cell_row rfl _ _ (g + 1) 95 (c3 (Root.times a n)) (0, 0) _ rfl hr' Try.underlying95 rfl info3r) rfl ⟨rfl, hb.grown hg' hb.size (fun j e => by cases e; have := HG.out; omega)⟩
theorem u64ne (x y : Nat) (h : x ≠ y) : (((x : Int) == (y : Int)) = false) ∧ (((x : Int) != (y : Int)) = true) := by
  have h' : (x : Int) ≠ (y : Int) := by omega
  exact ⟨beq_eq_false_iff_ne.2 h', by rw [bne_iff_ne]; exact h'⟩
theorem u64eq (x : Nat) : (((x : Int) == (x : Int)) = true) ∧ (((x : Int) != (x : Int)) = false) := ⟨beq_self_eq_true _, by simp⟩
set_option maxRecDepth 100000 in
set_option maxHeartbeats 1000000 in
theorem atMost_any (a b : Root.T3) (w : World) :
    Calls Try.prog 56 #[.agg (c3 a), .agg (c3 b)] w fun e w' => e = .returned (.bool (Root.atMost a b)) ∧ Below w.heap.size w w' := by
  have hb1 := fun w => run_box_row (P := Try.prog) w 95 (c3 a) info3r
  have hb2 := fun w => run_box_row (P := Try.prog) w 95 (c3 b) info3r
  go_enter Try.func56, Try.ntmps56
  go_wp2_with (first
    | (with_reducible refine wpList_box rfl 95 (.tmp 0) rfl (.agg (c3 a)) rfl (hb1 _) ?_)
    | (with_reducible refine wpList_box rfl 95 (.tmp 1) rfl (.agg (c3 b)) rfl (hb2 _) ?_)
    | fail)
  obtain ⟨g, hg⟩ : ∃ y, y = w.heap.size := ⟨_, rfl⟩
  rw [← hg]
  have k2 : Row ((w.alloc (.cells (c3 a) 95)).alloc (.cells (c3 b) 95)) g 95 (c3 a) := (Row.newAt hg.symm).alloc _
  have k3 : Row ((w.alloc (.cells (c3 a) 95)).alloc (.cells (c3 b) 95)) (g + 1) 95 (c3 b) := Row.newAt (by simp only [World.size_alloc]; omega)
  have kb : Below w.heap.size w ((w.alloc (.cells (c3 a) 95)).alloc (.cells (c3 b) 95)) := ((Later.refl w).alloc _).alloc _
  have HG := Lib.hid hg
  clear hg hb1 hb2
  generalize (w.alloc (.cells (c3 a) 95)).alloc (.cells (c3 b) 95) = w1 at *
  go_loopw [5] (fun t wr => ∃ k : Nat, k ≤ 3 ∧ t = .int .i64 ((k : Int) - 1) ∧ Row wr g 95 (c3 a) ∧ Row wr (g + 1) 95 (c3 b) ∧ (∀ j, k ≤ j → j < 3 → a.get j = b.get j) ∧ Below w.heap.size w wr) (fun t _ => (intOf t + 1).toNat)
  case atStart => exact ⟨3, by omega, rfl, k2, k3, fun j h1 h2 => by omega, kb⟩
  case round =>
    obtain ⟨k, hk, rfl, h2, h3, heq, hb⟩ := hrel
    clear k2 k3 kb
    have HEQ := Lib.hid heq
    clear heq
    rcases k with _ | k
    · have hat : Root.atMost a b = true := by
        have e0 := HEQ.out 0 (by omega) (by omega)
        have e1 := HEQ.out 1 (by omega) (by omega)
        have e2 := HEQ.out 2 (by omega) (by omega)
        simp only [Root.T3.get] at e0 e1 e2
        unfold Root.atMost
        rw [e0, e1, e2]
        simp
      have HAT := Lib.hid hat
      clear hat
      go_wp2_with fail
      go_ret
      exact ⟨by rw [HAT.out]; rfl, hb⟩
    · rw [show (((k + 1 : Nat) : Int) - 1) = (k : Int) from by omega]
      have hk3 : k < 3 := by omega
      have cx : wr.cell? ⟨g, k, none⟩ = some (.int .u64 ((a.get k : Nat) : Int)) := (h2.cell k).trans (c3_get a k hk3)
      have cy : wr.cell? ⟨g + 1, k, none⟩ = some (.int .u64 ((b.get k : Nat) : Int)) := (h3.cell k).trans (c3_get b k hk3)
      by_cases he : a.get k = b.get k
      · rw [← he] at cy
        obtain ⟨q1, q2⟩ := u64eq (a.get k)
        have HEK := Lib.hid he
        clear he
        generalize hgk : a.get k = ak at *
        have HGK := Lib.hid hgk
        clear hgk
        go_wp2_with fail
        go_quiet (fail)
        go_wp2_with fail
        go_roundw
        case rel => exact ⟨k, by omega, rfl, h2.drewN _, h3.drewN _, fun j h1 h2 => by
          by_cases e : j = k
          · subst e; rw [HGK.out]; exact HEK.out
          · exact HEQ.out j (by omega) h2, below_dN hb _⟩
        case measure => simp [intOf]
      · obtain ⟨q1, q2⟩ := u64ne _ _ he
        have hat : Root.atMost a b = decide (a.get k < b.get k) := by
          have e1 : 1 ≤ k ∨ k = 0 := by omega
          unfold Root.atMost
          have hc : k = 0 ∨ k = 1 ∨ k = 2 := by omega
          rcases hc with rfl | rfl | rfl
          · have y1 := HEQ.out 1 (by omega) (by omega)
            have y2 := HEQ.out 2 (by omega) (by omega)
            simp only [Root.T3.get] at y1 y2 he ⊢
            rw [y1, y2]
            simp [he]
          · have y2 := HEQ.out 2 (by omega) (by omega)
            simp only [Root.T3.get] at y2 he ⊢
            rw [y2]
            simp [he]
          · simp only [Root.T3.get] at he ⊢
            simp [he]
        have HAT := Lib.hid hat
        clear hat he
        generalize a.get k = ak at *
        generalize b.get k = bk at *
        go_wp2_with fail
        go_quiet (fail)
        go_wp2_with fail
        go_quiet (fail)
        go_wp2_with fail
        go_ret
        exact ⟨by rw [HAT.out]; rfl, below_dN (below_dN hb _) _⟩
end Go.Proofs.Ytfconncnccgenaa
