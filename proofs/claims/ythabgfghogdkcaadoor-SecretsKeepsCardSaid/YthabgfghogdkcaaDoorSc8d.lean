/- Walks, secrets: Get. -/
import Derived.Test.YthabgfghogdkcaaDoorSc8c
set_option linter.unusedVariables false
set_option linter.unusedSimpArgs false
namespace Go.Proofs.YthabgfghogdkcaaDoor
open Go.RowKit
theorem sliceKeptAll {g : Nat} {W : World} : (Instr.sliceAt 58 (.pointer (some ⟨g, 1, none⟩)) none none none).run Tryd.prog W = .ok (.slice (some ⟨g, 1, none⟩) 32 32) W := by
  go_simp
theorem loadScAt {w : World} {g p : Nat} {n : Int} {ix : Nat → Nat} {sc : Nat → List UInt8} {made : Bool} (hr : Row w g 60 (kC n ix sc made)) (hp : p < 32) (hs : (sc p).length = 32) : (Instr.loadAt 23 (.pointer (some ⟨g, 1 + 33 * p + 1, none⟩))).run Tryd.prog w = .ok (.agg (hC (sc p))) w := by
  have hz := hC_size (sc p) (Nat.le_of_eq hs)
  refine run_load_part hr (fun j hj => ?_) Tryd.underlying23 rfl (by rw [hz]; exact infoH)
  have h := kC_place n ix sc made p hp (Nat.le_of_eq hs) (1 + j) (by omega)
  rw [show 1 + 33 * p + 1 + j = 1 + 33 * p + (1 + j) from by omega, h]
  unfold ptC
  rw [Array.getElem?_append_right (by simp)]
  simp
def Sec.getArg (m : Int) : Prop := inB m 2147483647 = false
set_option maxRecDepth 100000 in
set_option maxHeartbeats 2000000 in
theorem get_no (g : Nat) (n : Nat) (m : Int) (ix : Nat → Nat) (sc : Nat → List UInt8) (e : Int) (w : World) (hr : Row w g 60 (kC n ix sc true)) (h : (inB m 2147483647 = false ∧ e = 2) ∨ (inB m 2147483647 = true ∧ (n : Int) ≤ m ∧ e = 5)) :
    Calls Tryd.prog 14 #[.pointer (some ⟨g, 0, none⟩), .int .i64 m] w fun r w' => r = .returned (.tuple #[.agg (hC []), .int .i64 e]) ∧ Below w.heap.size w w' := by
  have hrow4 := Row.new w 23 (hC [])
  have hbA := below_new w (.cells (hC []) 23)
  obtain ⟨w5, hst, hr5, hg5⟩ := storeH (a := []) (b := []) (by decide) (by decide) hrow4
  have hb5 : Below w.heap.size w w5 := hbA.grown hg5 hbA.size (fun j e => by cases e; exact Nat.le_refl _)
  have hrA := hr.alloc (.cells (hC []) 23)
  have cg : (w.alloc (.cells (hC []) 23)).cell? ⟨g, 0, none⟩ = some (.int .i64 n) := (hrA.cell 0).trans (kC_n _ _ _ _)
  have hn1 := knone_no g n ix sc _ hrA
  rcases h with ⟨h1, rfl⟩ | ⟨h1, h2, rfl⟩
  · go_enter Tryd.func14, Tryd.ntmps14
    go_wp2_with (first
      | (with_reducible refine wpList_alloc rfl 23 rfl (allocH _) ?_)
      | (go_at_call 27; refine hn1.mono ?_; rintro e w2 ⟨rfl, rfl⟩)
      | (go_at_call 24; refine (in64_any _ _ _).mono ?_; rintro e w2 ⟨rfl, rfl⟩)
      | (guard_target =~ wpList _ _ _ (_ :: _) _ _; refine wpList_buildC rfl 23 _ rfl #[] rfl (buildH0 _) ?_)
      | (guard_target =~ wpList _ _ _ (_ :: _) _ _; refine wpList_store rfl 23 (.tmp 4) (.tmp 16) rfl (.pointer (some ⟨w.heap.size, 0, none⟩)) (.agg (hC [])) rfl rfl hst ?_)
      | fail)
    exact bodyPost_ret (results_cell_tmp rfl _ _ w.heap.size 23 (hC []) (0, 0) _ (.int .i64 2) rfl rfl hr5 Tryd.underlying23 rfl (by rw [hC_size _ (by decide)]; exact infoH)) rfl ⟨rfl, hb5⟩
  · have h2' : decide ((n : Int) ≤ m) = true := decide_eq_true h2
    go_enter Tryd.func14, Tryd.ntmps14
    go_wp2_with (first
      | (with_reducible refine wpList_alloc rfl 23 rfl (allocH _) ?_)
      | (go_at_call 27; refine hn1.mono ?_; rintro e w2 ⟨rfl, rfl⟩)
      | (go_at_call 24; refine (in64_any _ _ _).mono ?_; rintro e w2 ⟨rfl, rfl⟩)
      | (guard_target =~ wpList _ _ _ (_ :: _) _ _; refine wpList_buildC rfl 23 _ rfl #[] rfl (buildH0 _) ?_)
      | (guard_target =~ wpList _ _ _ (_ :: _) _ _; refine wpList_store rfl 23 (.tmp 4) (.tmp 25) rfl (.pointer (some ⟨w.heap.size, 0, none⟩)) (.agg (hC [])) rfl rfl hst ?_)
      | fail)
    exact bodyPost_ret (results_cell_tmp rfl _ _ w.heap.size 23 (hC []) (0, 0) _ (.int .i64 5) rfl rfl hr5 Tryd.underlying23 rfl (by rw [hC_size _ (by decide)]; exact infoH)) rfl ⟨rfl, hb5⟩
set_option maxRecDepth 100000 in
set_option maxHeartbeats 4000000 in
theorem get_ok (g : Nat) (n m a : Nat) (ix : Nat → Nat) (sc : Nat → List UInt8) (w : World) (hT : Tabs w) (hk : IsKeep w g n ix sc) (hm : m ≤ 2147483647) (hlt : m < n) (ha : a < 32) (hit : Sec.hit ix (2147483647 - m) a = true) (hno : ∀ k, k < a → Sec.hit ix (2147483647 - m) k = false) :
    Calls Tryd.prog 14 #[.pointer (some ⟨g, 0, none⟩), .int .i64 (m : Int)] w fun r w' => r = .returned (.tuple #[.agg (hC (Sec.down (sc a) a (2147483647 - m))), .int .i64 0]) ∧ Below w.heap.size w w' := by
  have hrow4 := Row.new w 23 (hC [])
  have hbA := below_new w (.cells (hC []) 23)
  have hrA := hk.row.alloc (.cells (hC []) 23)
  have hLA : Later w (w.alloc (.cells (hC []) 23)) := hbA
  have cg : (w.alloc (.cells (hC []) 23)).cell? ⟨g, 0, none⟩ = some (.int .i64 n) := (hrA.cell 0).trans (kC_n _ _ _ _)
  have hn1 := knone_no g n ix sc _ hrA
  have hin := inB_yes (n := (m : Int)) (most := 2147483647) (by omega) (by omega)
  have hge : decide ((n : Int) ≤ (m : Int)) = false := decide_eq_false (by omega)
  have hge' : decide (n ≤ m) = false := decide_eq_false (by omega)
  obtain ⟨x, hx⟩ : ∃ x : Nat, 2147483647 - m = x := ⟨_, rfl⟩
  have hxI : (2147483647 : Int) - (m : Int) = (x : Int) := by omega
  have hxl : x < 2147483648 := by omega
  rw [hx] at hit hno ⊢
  have hdl : (Sec.down (sc a) a x).length = 32 := Sec.down_len _ _ _ (hk.len a)
  have hcall := fun W => down_any (sc a) a x W (hk.len a) (by omega) (by omega)
  obtain ⟨y, hy⟩ : ∃ y, Sec.down (sc a) a x = y := ⟨_, rfl⟩
  rw [hy] at hdl hcall ⊢
  have HDL := Lib.hid hdl
  have HC := Lib.hid hcall
  have HK := Lib.hid hk
  have HT := Lib.hid hT
  have HIT := Lib.hid hit
  have HNO := Lib.hid hno
  clear hk hT hit hno hx hdl hcall hy
  go_enter Tryd.func14, Tryd.ntmps14
  go_upto_region 8 with (first
    | (with_reducible refine wpList_alloc rfl 23 rfl (allocH _) ?_)
    | (go_at_call 27; refine hn1.mono ?_; rintro e w2 ⟨rfl, rfl⟩)
    | (go_at_call 24; refine (in64_any _ _ _).mono ?_; rintro e w2 ⟨rfl, rfl⟩)
    | fail)
  have k4 := hrow4.alloc (.cells #[.int .i64 (x : Int)] 2)
  have k6 := Row.new (w.alloc (.cells (hC []) 23)) 2 #[.int .i64 (x : Int)]
  have hb6 := below_new2 w (.cells (hC []) 23) (.cells #[.int .i64 (x : Int)] 2)
  rw [World.size_alloc] at k6
  try simp only [World.size_alloc]
  obtain ⟨q4, hq4⟩ : ∃ q, q = w.heap.size := ⟨_, rfl⟩
  rw [← hq4] at k4 k6 ⊢
  have HQ := Lib.hid hq4
  clear hq4 hrow4 hbA hrA hLA cg hn1 hin hge hge' hxI
  generalize (w.alloc (.cells (hC []) 23)).alloc (.cells #[.int .i64 (x : Int)] 2) = w6 at *
  have hkk := HK.out.of_row (HK.out.row.belowAll hb6)
  have c6 : w6.cell? ⟨q4 + 1, 0, none⟩ = some (.int .i64 (x : Int)) := (k6.cell 0).trans rfl
  have hix := indexFn_any g (q4 + 1) x a n ix sc w6 (HT.out.later hb6) hkk hxl c6 ha HIT.out HNO.out
  have hmf : ∀ (fn : Fn) (first cap : Array Value) (w : World), (Instr.makeFunc fn first cap).run Tryd.prog w = .ok (.func fn first cap) w := fun _ _ _ _ => rfl
  have HIX := Lib.hid hix
  clear hix c6
  go_upto_region 9 with (first
    | (guard_target =~ wpList _ _ _ (_ :: _) _ _; refine wpList_field rfl 60 (.tmp 29) 1 rfl (.pointer (some ⟨g, 0, none⟩)) rfl fieldPlaces ?_)
    | (guard_target =~ wpList _ _ _ (_ :: _) _ _; refine wpList_slice0 rfl 58 (.tmp 30) rfl (.pointer (some ⟨g, 1, none⟩)) rfl sliceKeptAll ?_)
    | (go_at_call 32; refine HIX.out.mono ?_; rintro e w7 ⟨rfl, hb7⟩)
    | fail)
  clear hmf HIX
  have hrow7 := hkk.row.belowAll hb7
  have k4 := k4.belowAll hb7
  have k6 := k6.belowAll hb7
  have hbw7 : Below w.heap.size w w7 := hb6.trans (hb7.mono hb6.size)
  clear hkk hb7 hb6
  refine (wpIn_wide (n := 0)).1 ?_
  refine wpIn_region_last2 wide_wide [Pr.eq (.pointer (some ⟨g, 0, none⟩)), Pr.eq (.int .i64 (a : Int)), Pr.eq (.pointer (some ⟨g, 0, none⟩)), Pr.eq (.pointer (some ⟨g, 1, none⟩)), Pr.eq (.pointer (some ⟨g, 1 + 33 * a, none⟩)), Pr.eq (.pointer (some ⟨g, 1 + 33 * a + 1, none⟩)), Pr.eq (.agg (hC (sc a))), Pr.eq (.int .i64 (a : Int)), Pr.eq (.int .i64 (x : Int)), Pr.eq (.agg (hC y))] (by kernel_rfl) (by kernel_rfl) (by kernel_rfl) (by kernel_rfl) (by kernel_rfl) (by kernel_rfl) rfl rfl (by kernel_rfl) ⟨?_, ?_, ?_, ?_, ?_, ?_, ?_, ?_, ?_, ?_, trivial⟩ ?_
  · exact fun ac W hL he => stepOk_want rfl (op_move rfl (he.keep (.tmp 0) (by kernel_rfl)))
  · exact fun ac W hL he => stepOk_want rfl (op_move rfl (he.keep (.tmp 7) (by kernel_rfl)))
  · exact fun ac W hL he => stepOk_want rfl (op_nil rfl (he.get 0 34 (by kernel_rfl) rfl) rfl)
  · exact fun ac W hL he => stepOk_want rfl (op_fieldAddr rfl (he.get 2 36 (by kernel_rfl) rfl) fieldPlaces rfl)
  · exact fun ac W hL he => stepOk_want rfl (op_idx rfl (he.get 3 37 (by kernel_rfl) rfl) (he.get 1 35 (by kernel_rfl) rfl) (idxKept ha) rfl)
  · exact fun ac W hL he => stepOk_want rfl (op_fieldAddr rfl (he.get 4 38 (by kernel_rfl) rfl) fieldKept1 rfl)
  · exact fun ac W hL he => stepOk_want rfl (op_load rfl (he.get 5 39 (by kernel_rfl) rfl) (loadScAt (hrow7.later hL) ha (HK.out.len a)) rfl)
  · exact fun ac W hL he => stepOk_want rfl (op_move rfl (he.keep (.tmp 7) (by kernel_rfl)))
  · exact fun ac W hL he => stepOk_want rfl (op_load rfl (he.keep (.tmp 6) (by kernel_rfl)) (loadI64 (((k6.later hL).cell 0).trans rfl)) rfl)
  · intro ac W hL he; refine stepOk_want rfl ?_; have e0 : ac.eval (.tmp 40) = .agg (hC (sc a)) := (he.get 6 40 (by kernel_rfl) rfl); have e1 : ac.eval (.tmp 41) = .int .i64 (a : Int) := (he.get 7 41 (by kernel_rfl) rfl); have e2 : ac.eval (.tmp 42) = .int .i64 (x : Int) := (he.get 8 42 (by kernel_rfl) rfl); exact op_callF (vs := #[.agg (hC (sc a)), .int .i64 (a : Int), .int .i64 (x : Int)]) rfl (by simp only [List.map_toArray, List.map_cons, List.map_nil, e0, e1, e2]) (enters_of Tryd.func25 (by kernel_rfl) rfl) (((HC.out W)).mono fun e W' ⟨he', hb⟩ => ⟨_, he', hb, rfl⟩)
  · intro xs W hL hx hk' hg
    have e1 := hk' (.tmp 4) (by kernel_rfl)
    have e2 := hg 9 43 (by decide) (by kernel_rfl)
    have v2 : xs 9 = .agg (hC y) := hx 9 (by decide)
    rw [v2] at e2
    obtain ⟨w8, hst, k8, hg8⟩ := storeH (b := y) (by decide) (Nat.le_of_eq HDL.out) (k4.later hL)
    refine last2_store rfl rfl e1 e2 hst rfl ?_
    have hb8 : Below w.heap.size w w8 := (hbw7.trans (hL.mono hbw7.size)).grown hg8 (by have := hbw7.size; have := hL.size; omega) (fun j e => by cases e; have := HQ.out; omega)
    clear hx hk' hg e1 e2 v2 hst hg8 hL hrow7 k4 k6 hbw7
    simp only [init2, pen2, last2, putL, Nat.reduceAdd, Act.put, List.setIfInBounds_toArray, List.set_cons_succ, List.set_cons_zero]
    go_wp2_with fail
    exact bodyPost_ret (results_cell_tmp rfl _ _ q4 23 (hC y) (0, 0) _ (.int .i64 0) rfl rfl k8 Tryd.underlying23 rfl (by rw [hC_size _ (Nat.le_of_eq HDL.out)]; exact infoH)) rfl ⟨rfl, hb8⟩
end Go.Proofs.YthabgfghogdkcaaDoor
