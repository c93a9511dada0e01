/- Walks: few. -/
import Derived.Test.YtmipaacobioakaaWr33
set_option linter.unusedVariables false
set_option linter.unusedSimpArgs false
namespace Go.Proofs.Ytmipaacobioakaa
open Go.RowKit
/-- A call of few parts. -/
def Wr.small (x : ActL) : Bool := decide (x.nums.length ≤ 10) && decide (x.truths.length ≤ 10) && decide (x.hashes.length ≤ 10) && decide (x.text.length ≤ 200)
set_option maxRecDepth 100000 in
set_option maxHeartbeats 4000000 in
theorem few_any (A : Option Addr) (n c : Nat) (xs : List ActL) (most : Nat) (w : World) (hn : xs.length = n) (hm : n ≤ 9223372036854775807) (hmo : most ≤ 1000) (hx : Acts w A xs) :
    Calls Try.prog 24 #[.slice A n c, .int .i64 (most : Int)] w fun e w' => e = .returned (.bool (xs.all Wr.small && decide (n ≤ most))) ∧ w' = w := by
  have HN := Lib.hid hn
  clear hn
  refine Calls.post fun Φ HΦ => ?_
  go_enter Try.func24, Try.ntmps24
  go_wp2_with fail
  go_loopw [5] (fun t wr => wr = w ∧ ∃ i : Nat, i ≤ n ∧ t = .int .i64 (i : Int) ∧ (xs.take i).all Wr.small = true) (fun t _ => n - (intOf t).toNat)
  case atStart => exact ⟨rfl, 0, by omega, rfl, rfl⟩
  case round =>
    obtain ⟨rfl, i, hi, rfl, hall⟩ := hrel
    by_cases hlt : i < n
    · have hd : decide ((i : Int) < (n : Int)) = true := decide_eq_true (by omega)
      have hd' : decide (i < n) = true := decide_eq_true hlt
      have hil : i < xs.length := by rw [HN.out]; exact hlt
      obtain ⟨b, o, rfl, hcs⟩ := hx (by intro e; subst e; simp at hil)
      obtain ⟨A1, A2, A3, c1, c2, c3, hc, hok⟩ := hcs i hil
      have hnx : xs.take (i + 1) = xs.take i ++ [xs[i]] := List.take_succ_eq_append_getElem hil
      have hsp : xs = xs.take i ++ (xs[i] :: xs.drop (i + 1)) := by simp
      generalize xs[i] = x at *
      have HNX := Lib.hid hnx
      have HSP := Lib.hid hsp
      have e1 : wr.cell? ⟨b, o + i * 5 + 1, none⟩ = some (.slice A1 x.nums.length c1) := hc 1 _ rfl
      have e2 : wr.cell? ⟨b, o + i * 5 + 2, none⟩ = some (.slice A2 x.truths.length c2) := hc 2 _ rfl
      have e3 : wr.cell? ⟨b, o + i * 5 + 3, none⟩ = some (.slice A3 x.hashes.length c3) := hc 3 _ rfl
      have e4 : wr.cell? ⟨b, o + i * 5 + 4, none⟩ = some (.string ⟨x.text.toArray⟩) := hc 4 _ rfl
      have hsz : (⟨x.text.toArray⟩ : ByteArray).size = x.text.length := by simp [ByteArray.size]
      have hno : Wr.small x = false → Φ (.returned (.bool false)) wr := fun h => by
        refine HΦ.out _ _ ⟨?_, rfl⟩
        rw [HSP.out]
        simp [h]
      have hsm : Wr.small x = (decide (x.nums.length ≤ 10) && decide (x.truths.length ≤ 10) && decide (x.hashes.length ≤ 10) && decide (x.text.length ≤ 200)) := rfl
      have HNO := Lib.hid hno
      have m4 := hok.m4
      have m1 := Nat.le_trans hok.n1 hok.m1
      have m2 := Nat.le_trans hok.n2 hok.m2
      have m3 := Nat.le_trans hok.n3 hok.m3
      unfold maxLen at m1 m2 m3 m4
      generalize x.nums.length = n1 at *
      generalize x.truths.length = n2 at *
      generalize x.hashes.length = n3 at *
      generalize hs4 : x.text.length = n4 at *
      have H4 := Lib.hid hs4
      clear hnx hsp hcs hc hok hno hs4
      by_cases h1 : n1 ≤ 10
      · have d1 : decide ((10 : Int) < (n1 : Int)) = false := decide_eq_false (by omega)
        have d1' : decide (10 < n1) = false := decide_eq_false (by omega)
        by_cases h2 : n2 ≤ 10
        · have d2 : decide ((10 : Int) < (n2 : Int)) = false := decide_eq_false (by omega)
          have d2' : decide (10 < n2) = false := decide_eq_false (by omega)
          by_cases h3 : n3 ≤ 10
          · have d3 : decide ((10 : Int) < (n3 : Int)) = false := decide_eq_false (by omega)
            have d3' : decide (10 < n3) = false := decide_eq_false (by omega)
            by_cases h4 : n4 ≤ 200
            · have d4 : decide ((200 : Int) < (n4 : Int)) = false := decide_eq_false (by omega)
              have d4' : decide (200 < n4) = false := decide_eq_false (by omega)
              have hyes : Wr.small x = true := by rw [hsm]; simp [h1, h2, h3, h4]
              have HY := Lib.hid hyes
              clear hyes hsm h1 h2 h3 h4
              go_wp2_with fail
              go_roundw
              case rel => exact ⟨trivial, i + 1, by omega, by go_num, by rw [HNX.out, List.all_append, hall]; simp [HY.out]⟩
              case measure => simp [intOf]; omega
            · have d4 : decide ((200 : Int) < (n4 : Int)) = true := decide_eq_true (by omega)
              have d4' : decide (200 < n4) = true := decide_eq_true (by omega)
              have hyes : Wr.small x = false := by rw [hsm]; simp; intros; omega
              have HY := Lib.hid hyes
              clear hyes hsm h1 h2 h3 h4
              go_wp2_with fail
              exact HNO.out HY.out
          · have d3 : decide ((10 : Int) < (n3 : Int)) = true := decide_eq_true (by omega)
            have d3' : decide (10 < n3) = true := decide_eq_true (by omega)
            have hyes : Wr.small x = false := by rw [hsm]; simp; intros; omega
            have HY := Lib.hid hyes
            clear hyes hsm h1 h2 h3
            go_wp2_with fail
            exact HNO.out HY.out
        · have d2 : decide ((10 : Int) < (n2 : Int)) = true := decide_eq_true (by omega)
          have d2' : decide (10 < n2) = true := decide_eq_true (by omega)
          have hyes : Wr.small x = false := by rw [hsm]; simp; intros; omega
          have HY := Lib.hid hyes
          clear hyes hsm h1 h2
          go_wp2_with fail
          exact HNO.out HY.out
      · have d1 : decide ((10 : Int) < (n1 : Int)) = true := decide_eq_true (by omega)
        have d1' : decide (10 < n1) = true := decide_eq_true (by omega)
        have hyes : Wr.small x = false := by rw [hsm]; simp; intros; omega
        have HY := Lib.hid hyes
        clear hyes hsm h1
        go_wp2_with fail
        exact HNO.out HY.out
    · obtain rfl : i = n := by omega
      have hd : decide ((i : Int) < (i : Int)) = false := decide_eq_false (by omega)
      have hdm : decide ((i : Int) ≤ (most : Int)) = decide (i ≤ most) := by simp
      rw [List.take_of_length_le (by rw [HN.out]; exact Nat.le_refl _)] at hall
      go_wp2_with fail
      exact HΦ.out _ _ ⟨by rw [hall]; simp, rfl⟩
end Go.Proofs.Ytmipaacobioakaa
