/- Walks: a reader that is none (nil, or not made by Read). -/
import Derived.Test.YtmipaacobioakaaWr29
set_option linter.unusedVariables false
set_option linter.unusedSimpArgs false
namespace Go.Proofs.Ytmipaacobioakaa
open Go.RowKit
/-- The pointer is of no reader. -/
def NoRd (w : World) (pv : Option Addr) : Prop := ∀ W, Later w W → Calls Try.prog 46 #[.pointer pv] W fun e w' => w' = W ∧ e = .returned (.bool true)
theorem NoRd.later {w w' : World} {pv : Option Addr} (h : NoRd w pv) (hL : Later w w') : NoRd w' pv := fun W k => h W (hL.step k)
theorem noRd_nil (w : World) : NoRd w none := fun W _ => rnone_nil W
theorem noRd_void {w : World} {g : Nat} (hr : Row w g 47 (rdC none 0 0 false false)) : NoRd w (some ⟨g, 0, none⟩) := fun W hL => rnone_yes g none 0 0 false false W (hr.later hL)
theorem loadPV {b o : Nat} {pv : Option Addr} {W : World} (hc : W.cell? ⟨b, o, none⟩ = some (.pointer pv)) : (Instr.loadAt 37 (.pointer (some ⟨b, o, none⟩))).run Try.prog W = .ok (.pointer pv) W := by
  go_simp
set_option maxRecDepth 100000 in
set_option maxHeartbeats 1000000 in
theorem try_none (pv : Option Addr) (ahead : Int) (F : FuncId) (caps : Array Value) (w : World) (hno : NoRd w pv) :
    Calls Try.prog 47 #[.pointer pv, .int .i64 ahead, .func (Fn.func F) #[] caps] w fun e W' => Later w W' ∧ e = .returned (.int .i64 1) := by
  have k3 := (Row.new w 37 #[.pointer pv]).alloc (.cells #[.int .i64 0] 26)
  have k6 := Row.new (w.alloc (.cells #[.pointer pv] 37)) 26 #[.int .i64 0]
  have hb := ((Later.refl w).alloc (.cells #[.pointer pv] 37)).alloc (.cells #[.int .i64 0] 26)
  have hn1 := hno _ hb
  go_enter_defers Try.func47, Try.ntmps47
  go_upto_region 1 with fail
  rw [World.size_alloc] at k6
  obtain ⟨q3, hq3⟩ : ∃ q, q = w.heap.size := ⟨_, rfl⟩
  rw [← hq3] at k3 k6 ⊢
  have HQ := Lib.hid hq3
  clear hq3
  generalize (w.alloc (.cells #[.pointer pv] 37)).alloc (.cells #[.int .i64 0] 26) = w1 at *
  have h3c : w1.cell? ⟨q3, 0, none⟩ = some (.pointer pv) := (k3.cell 0).trans rfl
  have h6c : w1.cell? ⟨q3 + 1, 0, none⟩ = some (.int .i64 0) := (k6.cell 0).trans rfl
  have h6f : w1.frozen? ⟨q3 + 1, 0, none⟩ = false := k6.frozen 0
  go_wp2_with (first
    | (go_at_call 46; refine hn1.mono ?_; clear hn1; rintro e w2 ⟨rfl, rfl⟩)
    | fail)
  have k6' := k6.set 0 (.int .i64 1)
  have hcv : (w2.setCell ⟨q3 + 1, 0, none⟩ (.int .i64 1)).cell? ⟨q3 + 1, 0, none⟩ = some (.int .i64 1) := (k6'.cell 0).trans rfl
  have hb2 : Later w (w2.setCell ⟨q3 + 1, 0, none⟩ (.int .i64 1)) := Below.setCell hb (p := ⟨q3 + 1, 0, none⟩) (by have := HQ.out; show w.heap.size ≤ q3 + 1; omega) _
  exact ⟨_, by simp [results, Try.results47, go_sem, hcv], hb2, rfl⟩
theorem left_none (pv : Option Addr) (w : World) (hno : NoRd w pv) : Calls Try.prog 18 #[.pointer pv] w fun e w' => w' = w ∧ e = .returned (.int .i64 0) := by
  have hn1 := hno w (Later.refl w)
  go_enter Try.func18, Try.ntmps18
  go_wp2_with (first
    | (go_at_call 46; refine hn1.mono ?_; clear hn1; rintro e w2 ⟨rfl, rfl⟩)
    | fail)
  go_ret
  exact ⟨rfl, rfl⟩
set_option maxRecDepth 100000 in
theorem end_none (pv : Option Addr) (w : World) (hno : NoRd w pv) : Calls Try.prog 23 #[.pointer pv] w fun e w' => Later w w' ∧ e = .returned (.int .i64 1) := by
  have hmf : ∀ (fn : Fn) (first cap : Array Value) (w : World), (Instr.makeFunc fn first cap).run Try.prog w = .ok (.func fn first cap) w := fun _ _ _ _ => rfl
  have k1 := Row.new w 37 #[.pointer pv]
  have hb := (Later.refl w).alloc (.cells #[.pointer pv] 37)
  go_enter Try.func23, Try.ntmps23
  go_upto_region 1 with fail
  obtain ⟨q1, hq1⟩ : ∃ q, q = w.heap.size := ⟨_, rfl⟩
  rw [← hq1] at k1 ⊢
  clear hq1
  generalize w.alloc (.cells #[.pointer pv] 37) = w1 at *
  have c1 : w1.cell? ⟨q1, 0, none⟩ = some (.pointer pv) := (k1.cell 0).trans rfl
  have htry := try_none pv 0 56 #[.pointer (some ⟨q1, 0, none⟩)] w1 (hno.later hb)
  go_wp2_with (first
    | (go_at_call 47; refine htry.mono ?_; clear htry; rintro e w2 ⟨hL, rfl⟩)
    | fail)
  go_ret
  exact ⟨hb.step hL, rfl⟩
set_option maxRecDepth 100000 in
theorem truth_none (pv : Option Addr) (w : World) (hno : NoRd w pv) : Calls Try.prog 20 #[.pointer pv] w fun e w' => Later w w' ∧ e = .returned (.tuple #[.bool false, .int .i64 1]) := by
  have hmf : ∀ (fn : Fn) (first cap : Array Value) (w : World), (Instr.makeFunc fn first cap).run Try.prog w = .ok (.func fn first cap) w := fun _ _ _ _ => rfl
  have k1 := (Row.new w 37 #[.pointer pv]).alloc (.cells #[.bool false] 4)
  have k2 := Row.new (w.alloc (.cells #[.pointer pv] 37)) 4 #[.bool false]
  have hb := ((Later.refl w).alloc (.cells #[.pointer pv] 37)).alloc (.cells #[.bool false] 4)
  go_enter Try.func20, Try.ntmps20
  go_upto_region 1 with fail
  simp only [World.size_alloc] at k2
  obtain ⟨q1, hq1⟩ : ∃ q, q = w.heap.size := ⟨_, rfl⟩
  rw [← hq1] at k1 k2 ⊢
  have HQ := Lib.hid hq1
  clear hq1
  generalize (w.alloc (.cells #[.pointer pv] 37)).alloc (.cells #[.bool false] 4) = w1 at *
  have c1 : w1.cell? ⟨q1, 0, none⟩ = some (.pointer pv) := (k1.cell 0).trans rfl
  have htry := try_none pv 0 51 #[.pointer (some ⟨q1, 0, none⟩), .pointer (some ⟨q1 + 1, 0, none⟩)] w1 (hno.later hb)
  go_upto_region 2 with (first
    | (go_at_call 47; refine htry.mono ?_; clear htry; rintro e w2 ⟨hL, rfl⟩)
    | fail)
  have k22 := k2.later hL
  have c2 : w2.cell? ⟨q1 + 1, 0, none⟩ = some (.bool false) := (k22.cell 0).trans rfl
  have f2 : w2.frozen? ⟨q1 + 1, 0, none⟩ = false := k22.frozen 0
  have hb2 := hb.step hL
  have HB := Lib.hid hb2
  have HK := Lib.hid k22
  clear hb hL k2 k22 hb2
  go_wp2_with fail
  have hcv : (w2.setCell ⟨q1 + 1, 0, none⟩ (.bool false)).cell? ⟨q1 + 1, 0, none⟩ = some (.bool false) := ((HK.out.set 0 (.bool false)).cell 0).trans rfl
  exact bodyPost_ret (v := .tuple #[.bool false, .int .i64 1]) (by simp [results, Try.results20, go_sem, hcv]) rfl ⟨Below.setCell HB.out (p := ⟨q1 + 1, 0, none⟩) (by have := HQ.out; show w.heap.size ≤ q1 + 1; omega) _, rfl⟩
set_option maxRecDepth 100000 in
theorem hash_none (pv : Option Addr) (w : World) (hno : NoRd w pv) : Calls Try.prog 21 #[.pointer pv] w fun e w' => Later w w' ∧ e = .returned (.tuple #[.agg (hC []), .int .i64 1]) := by
  have hmf : ∀ (fn : Fn) (first cap : Array Value) (w : World), (Instr.makeFunc fn first cap).run Try.prog w = .ok (.func fn first cap) w := fun _ _ _ _ => rfl
  have k1 := (Row.new w 37 #[.pointer pv]).alloc (.cells (hC []) 53)
  have k2 := Row.new (w.alloc (.cells #[.pointer pv] 37)) 53 (hC [])
  have hb := ((Later.refl w).alloc (.cells #[.pointer pv] 37)).alloc (.cells (hC []) 53)
  go_enter Try.func21, Try.ntmps21
  go_upto_region 1 with (first
    | (with_reducible refine wpList_alloc rfl 53 rfl (allocH _) ?_)
    | fail)
  simp only [World.size_alloc] at k2 ⊢
  obtain ⟨q1, hq1⟩ : ∃ q, q = w.heap.size := ⟨_, rfl⟩
  rw [← hq1] at k1 k2 ⊢
  have HQ := Lib.hid hq1
  clear hq1
  generalize (w.alloc (.cells #[.pointer pv] 37)).alloc (.cells (hC []) 53) = w1 at *
  have c1 : w1.cell? ⟨q1, 0, none⟩ = some (.pointer pv) := (k1.cell 0).trans rfl
  have htry := try_none pv 0 54 #[.pointer (some ⟨q1 + 1, 0, none⟩), .pointer (some ⟨q1, 0, none⟩)] w1 (hno.later hb)
  go_upto_region 2 with (first
    | (go_at_call 47; refine htry.mono ?_; clear htry; rintro e w2 ⟨hL, rfl⟩)
    | fail)
  have k22 := k2.later hL
  have hld := loadHz (h := []) (by decide) k22
  obtain ⟨w3, hst, k23, hg3⟩ := storeH (b := []) (by decide) (by decide) k22
  have hb2 := hb.step hL
  have hb3 : Later w w3 := hb2.grown hg3 hb2.size (fun j e => by cases e; have := HQ.out; omega)
  go_wp2_with (first
    | (refine wpList_load rfl 53 (.tmp 2) rfl (.pointer (some ⟨q1 + 1, 0, none⟩)) rfl hld ?_)
    | (refine wpList_store rfl 53 (.tmp 2) (.tmp 7) rfl (.pointer (some ⟨q1 + 1, 0, none⟩)) (.agg (hC [])) rfl rfl hst ?_)
    | fail)
  exact bodyPost_ret (results_cell_tmp rfl _ _ (q1 + 1) 53 (hC []) (0, 0) _ (.int .i64 1) rfl rfl k23 Try.underlying53 rfl (by rw [hC_size _ (by decide)]; exact infoH)) rfl ⟨hb3, rfl⟩
set_option maxRecDepth 100000 in
set_option maxHeartbeats 2000000 in
theorem number_none (pv : Option Addr) (w : World) (hno : NoRd w pv) :
    Calls Try.prog 19 #[.pointer pv, .int .i64 1] w fun e w' => Later w w' ∧ e = .returned (.tuple #[.int .i64 0, .int .i64 1]) := by
  have k2 := ((Row.new w 37 #[.pointer pv]).alloc (.cells #[.int .i64 1] 2)).alloc (.cells #[.int .i64 0] 2)
  have k3 := (Row.new (w.alloc (.cells #[.pointer pv] 37)) 2 #[.int .i64 1]).alloc (.cells #[.int .i64 0] 2)
  have k4 := Row.new ((w.alloc (.cells #[.pointer pv] 37)).alloc (.cells #[.int .i64 1] 2)) 2 #[.int .i64 0]
  have hb := (((Later.refl w).alloc (.cells #[.pointer pv] 37)).alloc (.cells #[.int .i64 1] 2)).alloc (.cells #[.int .i64 0] 2)
  go_enter Try.func19, Try.ntmps19
  go_upto_region 1 with fail
  simp only [World.size_alloc] at k3 k4
  obtain ⟨q2, hq2⟩ : ∃ q, q = w.heap.size := ⟨_, rfl⟩
  rw [← hq2] at k2 k3 k4 ⊢
  have HQ := Lib.hid hq2
  clear hq2
  generalize ((w.alloc (.cells #[.pointer pv] 37)).alloc (.cells #[.int .i64 1] 2)).alloc (.cells #[.int .i64 0] 2) = w1 at *
  refine (wpIn_wide (n := 0)).1 ?_
  refine wpIn_region_last2 wide_wide [Pr.eq (.pointer pv), Pr.eq (.int .i64 1), Pr.eq (.int .i64 0), Pr.eq (.func (.func 49) #[] #[.pointer (some ⟨q2, 0, none⟩), .pointer (some ⟨q2 + 1, 0, none⟩), .pointer (some ⟨q2 + 1 + 1, 0, none⟩)])] (by kernel_rfl) (by kernel_rfl) (by kernel_rfl) (by kernel_rfl) (by kernel_rfl) (by kernel_rfl) rfl rfl (by kernel_rfl) ⟨?_, ?_, ?_, ?_, trivial⟩ ?_
  · exact fun ac W hL he => stepOk_want rfl (op_load rfl (he.keep (.tmp 2) (by kernel_rfl)) (loadPV (((k2.later hL).cell 0).trans rfl)) rfl)
  · exact fun ac W hL he => stepOk_want rfl (op_load rfl (he.keep (.tmp 3) (by kernel_rfl)) (loadI64 (((k3.later hL).cell 0).trans rfl)) rfl)
  · intro ac W hL he; refine stepOk_want rfl ?_; have e0 : ac.eval (.tmp 7) = .int .i64 1 := (he.get 1 7 (by kernel_rfl) rfl); exact op_callF (vs := #[.int .i64 1]) rfl (by simp only [List.map_toArray, List.map_cons, List.map_nil, e0]) (enters_of Try.func48 (by kernel_rfl) rfl) ((bound_any 1 W).mono fun e W' ⟨hw', he'⟩ => ⟨_, he', hw' ▸ Later.refl _, rfl⟩)
  · intro ac W hL he; refine stepOk_want rfl (op_makeFunc rfl ?_ rfl); simp only [List.map_toArray, List.map_cons, List.map_nil, (he.keep (.tmp 2) (by kernel_rfl)), (he.keep (.tmp 3) (by kernel_rfl)), (he.keep (.tmp 4) (by kernel_rfl))]; rfl
  · intro xs W hL hx hk hg
    have e6 := hg 0 6 (by decide) (by kernel_rfl)
    have e8 := hg 2 8 (by decide) (by kernel_rfl)
    have e9 := hg 3 9 (by decide) (by kernel_rfl)
    have v6 : xs 0 = .pointer pv := hx 0 (by decide)
    have v8 : xs 2 = .int .i64 0 := hx 2 (by decide)
    have v9 : xs 3 = .func (.func 49) #[] #[.pointer (some ⟨q2, 0, none⟩), .pointer (some ⟨q2 + 1, 0, none⟩), .pointer (some ⟨q2 + 1 + 1, 0, none⟩)] := hx 3 (by decide)
    rw [v6] at e6
    rw [v8] at e8
    rw [v9] at e9
    refine last2_callK (vs := #[.pointer pv, .int .i64 0, .func (.func 49) #[] #[.pointer (some ⟨q2, 0, none⟩), .pointer (some ⟨q2 + 1, 0, none⟩), .pointer (some ⟨q2 + 1 + 1, 0, none⟩)]]) rfl (by simp only [List.map_toArray, List.map_cons, List.map_nil, e6, e8, e9]) (enters_of Try.func47 (by kernel_rfl) rfl) rfl (fun _ => rfl) ?_
    refine (try_none pv 0 _ _ W (hno.later (hb.step hL))).mono ?_
    clear hx hg v6 v8 v9 e6 e8 e9
    rintro e W' ⟨hL', rfl⟩
    refine ⟨_, rfl, ?_⟩
    have k41 := k4.later (hL.step hL')
    have c4 : W'.cell? ⟨q2 + 1 + 1, 0, none⟩ = some (.int .i64 0) := (k41.cell 0).trans rfl
    have f4 : W'.frozen? ⟨q2 + 1 + 1, 0, none⟩ = false := k41.frozen 0
    have hb2 := hb.step (hL.step hL')
    have HB := Lib.hid hb2
    have HK := Lib.hid k41
    clear hb hL hL' k2 k3 k4 k41 hb2
    simp only [init2, pen2, last2, putL, Nat.reduceAdd, Act.put, List.setIfInBounds_toArray, List.set_cons_succ, List.set_cons_zero]
    go_wp2_with fail
    have hcv : (W'.setCell ⟨q2 + 1 + 1, 0, none⟩ (.int .i64 0)).cell? ⟨q2 + 1 + 1, 0, none⟩ = some (.int .i64 0) := ((HK.out.set 0 (.int .i64 0)).cell 0).trans rfl
    exact bodyPost_ret (v := .tuple #[.int .i64 0, .int .i64 1]) (by simp [results, Try.results19, go_sem, hcv]) rfl ⟨Below.setCell HB.out (p := ⟨q2 + 1 + 1, 0, none⟩) (by have := HQ.out; show w.heap.size ≤ q2 + 1 + 1; omega) _, rfl⟩
set_option maxRecDepth 100000 in
set_option maxHeartbeats 2000000 in
theorem text_none (pv : Option Addr) (w : World) (hno : NoRd w pv) :
    Calls Try.prog 22 #[.pointer pv, .int .i64 1] w fun e w' => Later w w' ∧ e = .returned (.tuple #[.string ⟨#[]⟩, .int .i64 1]) := by
  have k2 := ((Row.new w 37 #[.pointer pv]).alloc (.cells #[.int .i64 1] 3)).alloc (.cells #[.string ⟨#[]⟩] 9)
  have k3 := (Row.new (w.alloc (.cells #[.pointer pv] 37)) 3 #[.int .i64 1]).alloc (.cells #[.string ⟨#[]⟩] 9)
  have k4 := Row.new ((w.alloc (.cells #[.pointer pv] 37)).alloc (.cells #[.int .i64 1] 3)) 9 #[.string ⟨#[]⟩]
  have hb := (((Later.refl w).alloc (.cells #[.pointer pv] 37)).alloc (.cells #[.int .i64 1] 3)).alloc (.cells #[.string ⟨#[]⟩] 9)
  go_enter Try.func22, Try.ntmps22
  go_upto_region 1 with fail
  simp only [World.size_alloc] at k3 k4
  obtain ⟨q2, hq2⟩ : ∃ q, q = w.heap.size := ⟨_, rfl⟩
  rw [← hq2] at k2 k3 k4 ⊢
  have HQ := Lib.hid hq2
  clear hq2
  generalize ((w.alloc (.cells #[.pointer pv] 37)).alloc (.cells #[.int .i64 1] 3)).alloc (.cells #[.string ⟨#[]⟩] 9) = w1 at *
  refine (wpIn_wide (n := 0)).1 ?_
  refine wpIn_region_last2 wide_wide [Pr.eq (.pointer pv), Pr.eq (.int .i64 1), Pr.eq (.int .i64 0), Pr.eq (.func (.func 55) #[] #[.pointer (some ⟨q2, 0, none⟩), .pointer (some ⟨q2 + 1, 0, none⟩), .pointer (some ⟨q2 + 1 + 1, 0, none⟩)])] (by kernel_rfl) (by kernel_rfl) (by kernel_rfl) (by kernel_rfl) (by kernel_rfl) (by kernel_rfl) rfl rfl (by kernel_rfl) ⟨?_, ?_, ?_, ?_, trivial⟩ ?_
  · exact fun ac W hL he => stepOk_want rfl (op_load rfl (he.keep (.tmp 2) (by kernel_rfl)) (loadPV (((k2.later hL).cell 0).trans rfl)) rfl)
  · exact fun ac W hL he => stepOk_want rfl (op_load rfl (he.keep (.tmp 3) (by kernel_rfl)) (loadInt (((k3.later hL).cell 0).trans rfl)) rfl)
  · intro ac W hL he; refine stepOk_want rfl ?_; have e0 : ac.eval (.tmp 7) = .int .i64 1 := (he.get 1 7 (by kernel_rfl) rfl); exact op_callF (vs := #[.int .i64 1]) rfl (by simp only [List.map_toArray, List.map_cons, List.map_nil, e0]) (enters_of Try.func48 (by kernel_rfl) rfl) ((bound_any 1 W).mono fun e W' ⟨hw', he'⟩ => ⟨_, he', hw' ▸ Later.refl _, rfl⟩)
  · intro ac W hL he; refine stepOk_want rfl (op_makeFunc rfl ?_ rfl); simp only [List.map_toArray, List.map_cons, List.map_nil, (he.keep (.tmp 2) (by kernel_rfl)), (he.keep (.tmp 3) (by kernel_rfl)), (he.keep (.tmp 4) (by kernel_rfl))]; rfl
  · intro xs W hL hx hk hg
    have e6 := hg 0 6 (by decide) (by kernel_rfl)
    have e8 := hg 2 8 (by decide) (by kernel_rfl)
    have e9 := hg 3 9 (by decide) (by kernel_rfl)
    have v6 : xs 0 = .pointer pv := hx 0 (by decide)
    have v8 : xs 2 = .int .i64 0 := hx 2 (by decide)
    have v9 : xs 3 = .func (.func 55) #[] #[.pointer (some ⟨q2, 0, none⟩), .pointer (some ⟨q2 + 1, 0, none⟩), .pointer (some ⟨q2 + 1 + 1, 0, none⟩)] := hx 3 (by decide)
    rw [v6] at e6
    rw [v8] at e8
    rw [v9] at e9
    refine last2_callK (vs := #[.pointer pv, .int .i64 0, .func (.func 55) #[] #[.pointer (some ⟨q2, 0, none⟩), .pointer (some ⟨q2 + 1, 0, none⟩), .pointer (some ⟨q2 + 1 + 1, 0, none⟩)]]) rfl (by simp only [List.map_toArray, List.map_cons, List.map_nil, e6, e8, e9]) (enters_of Try.func47 (by kernel_rfl) rfl) rfl (fun _ => rfl) ?_
    refine (try_none pv 0 _ _ W (hno.later (hb.step hL))).mono ?_
    clear hx hg v6 v8 v9 e6 e8 e9
    rintro e W' ⟨hL', rfl⟩
    refine ⟨_, rfl, ?_⟩
    have k41 := k4.later (hL.step hL')
    have c4 : W'.cell? ⟨q2 + 1 + 1, 0, none⟩ = some (.string ⟨#[]⟩) := (k41.cell 0).trans rfl
    have f4 : W'.frozen? ⟨q2 + 1 + 1, 0, none⟩ = false := k41.frozen 0
    have hb2 := hb.step (hL.step hL')
    have HB := Lib.hid hb2
    have HK := Lib.hid k41
    clear hb hL hL' k2 k3 k4 k41 hb2
    simp only [init2, pen2, last2, putL, Nat.reduceAdd, Act.put, List.setIfInBounds_toArray, List.set_cons_succ, List.set_cons_zero]
    go_wp2_with fail
    have hcv : (W'.setCell ⟨q2 + 1 + 1, 0, none⟩ (.string ⟨#[]⟩)).cell? ⟨q2 + 1 + 1, 0, none⟩ = some (.string ⟨#[]⟩) := ((HK.out.set 0 (.string ⟨#[]⟩)).cell 0).trans rfl
    exact bodyPost_ret (v := .tuple #[.string ⟨#[]⟩, .int .i64 1]) (by simp [results, Try.results22, go_sem, hcv]) rfl ⟨Below.setCell HB.out (p := ⟨q2 + 1 + 1, 0, none⟩) (by have := HQ.out; show w.heap.size ≤ q2 + 1 + 1; omega) _, rfl⟩
end Go.Proofs.Ytmipaacobioakaa
