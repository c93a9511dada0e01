/- Walks: the hash of all that came to a sum under way. -/
import Derived.Test.YtfconncnccgenaaShaR4
set_option linter.unusedVariables false
set_option linter.unusedSimpArgs false
namespace Go.Proofs.Ytfconncnccgenaa
open Go.RowKit
theorem eqg_mul {T : TypeId} {x y : Operand} {vx vy : Value} {P : Program} {W : World} : (eqGuard .mul T x y vx vy).run P W = .ok () W := rfl
theorem mulI4 {k : Nat} {W : World} (h : k < 8) : (binOp .mul 3 (.int .i64 4) (.int .i64 (k : Int))).run Try.prog W = .ok (.int .i64 ((4 * k : Nat) : Int)) W := by
  have h1 : (binOp .mul 3 (.int .i64 4) (.int .i64 (k : Int))).run Try.prog W = .ok (.int .i64 (IntKind.i64.wrap (4 * (k : Int)))) W := by kernel_rfl
  rw [h1, IntWalk.i64_in _ (by omega)]
  congr 2
theorem conv32 (x : BitVec 32) (W : World) : (convert 39 78 (.int .u32 (x.toNat : Int))).run Try.prog W = .ok (.int .u64 (x.toNat : Int)) W := by
  have hx := x.isLt
  go_simp
  simp [IntKind.wrap, IntKind.bits, IntKind.signed]
  omega
theorem told4_any (n : Nat) (w : World) (hn : n < 18446744073709551616) : Calls Try.prog 45 #[.int .u64 (n : Int), .int .i64 4] w fun e w' => ∃ v, e = .returned v ∧ Own 5 w' w.heap.size v (Sha.told n 4) ∧ Below w.heap.size w w' := told_any n 4 w hn (by decide)
theorem told8_any (n : Nat) (w : World) (hn : n * 8 < 18446744073709551616) : Calls Try.prog 45 #[.int .u64 ((n : Int) * 8), .int .i64 8] w fun e w' => ∃ v, e = .returned v ∧ Own 5 w' w.heap.size v (Sha.told (n * 8) 8) ∧ Below w.heap.size w w' := told_any (n * 8) 8 w hn (by decide)
theorem sliceH {g a : Nat} (h : a < 32) (W : World) : (Instr.sliceAt 26 (.pointer (some ⟨g, 0, none⟩)) (some (.int .i64 (a : Int))) none none).run Try.prog W = .ok (.slice (some ⟨g, a, none⟩) (32 - a) (32 - a)) W := by
  obtain ⟨i, hi0, hz, hs, hb⟩ := info_parts info5
  have h1 : (a : Int) ≤ 32 := by omega
  have h2 : (0 : Int) ≤ (a : Int) := by omega
  have h3 : ¬ 32 = a := by omega
  simp [Instr.sliceAt, run_underlying Try.underlying26, Instr.sliceBounds, Instr.sliceBound, asIntOf, h1, h2, h3, sizeOf, typeInfo, hi0, hs]
  rw [show (Instr.sureAddr (Value.pointer (some ⟨g, 0, none⟩))).run Try.prog W = .ok ⟨g, 0, none⟩ W from rfl]
  simp only [Result.andThen_ok]
  rw [if_pos (by omega)]
  simp [Addr.add]
  intro h0
  exact h0.symm
/-- A hash of which some bytes have been laid. -/
def hC (b : List UInt8) : Array Value := ((b ++ Sha.zeros (32 - b.length)).map byteV).toArray
theorem hC_copy (b d : List UInt8) (h : b.length + d.length ≤ 32) : setFrom (hC b) b.length (d.map byteV) = hC (b ++ d) := by
  have := setFrom_mid (b.map byteV) ((Sha.zeros d.length).map byteV) ((Sha.zeros (32 - b.length - d.length)).map byteV) (d.map byteV) b.length (by simp) (by simp [Sha.zeros])
  unfold hC
  rw [show Sha.zeros (32 - b.length) = Sha.zeros d.length ++ Sha.zeros (32 - b.length - d.length) from by unfold Sha.zeros; rw [List.replicate_append_replicate]; congr 1; omega]
  simp only [List.map_append, List.append_assoc, List.length_append] at this ⊢
  rw [this, show 32 - (b.length + d.length) = 32 - b.length - d.length from by omega]
theorem hC_size (b : List UInt8) (h : b.length ≤ 32) : (hC b).size = 32 := by simp [hC, Sha.zeros]; omega
theorem hC_one (b : List UInt8) : (hC b).all (·.oneCell') = true := by
  rw [Array.all_eq_true_iff_forall_mem]
  intro v hv
  unfold hC at hv
  rw [List.mem_toArray] at hv
  obtain ⟨i, hi, rfl⟩ := List.mem_map.1 hv; rfl
def preC (x : Sha.St) (k : Nat) : List UInt8 := ((x.list.take k).map fun w => Sha.told w.toNat 4).flatten
theorem preC_succ (x : Sha.St) (k : Nat) (h : k < 8) : preC x (k + 1) = preC x k ++ Sha.told (x.get k).toNat 4 := by
  unfold preC
  have hl : x.list.length = 8 := rfl
  rw [List.take_succ_eq_append_getElem (by omega), List.map_append, List.flatten_append]
  have : x.list[k]'(by omega) = x.get k := by
    have : ∀ k : Fin 8, x.list[k.val]'(by rw [hl]; exact k.isLt) = x.get k.val := by
      intro k
      match k with
      | 0 => rfl
      | 1 => rfl
      | 2 => rfl
      | 3 => rfl
      | 4 => rfl
      | 5 => rfl
      | 6 => rfl
      | 7 => rfl
    exact this ⟨k, h⟩
  rw [this]
  simp
theorem preC_len (x : Sha.St) : ∀ k, k ≤ 8 → (preC x k).length = 4 * k
  | 0, _ => rfl
  | k + 1, h => by rw [preC_succ x k (by omega), List.length_append, preC_len x k (by omega), Sha.told_len]; omega
theorem preC_all (x : Sha.St) : preC x 8 = Sha.toldSt x := rfl
theorem infoH : (Try.prog.info? 26).map (·.size) = some 32 := by kernel_rfl
theorem allocH (w : World) : (Instr.alloc 26 true (.tuple #[])).run Try.prog w = .ok (.pointer (some ⟨w.heap.size, 0, none⟩)) (w.alloc (.cells (hC []) 26)) := by kernel_rfl
def z74 : Array Value := (List.replicate 8 (Value.int .u32 0) ++ (List.replicate 64 (Value.int .u8 0) ++ [Value.int .i64 0, Value.bool false])).toArray
theorem infoR : (Try.prog.info? 77).map (·.size) = some 74 := by kernel_rfl
theorem allocR (w : World) : (Instr.alloc 77 true (.tuple #[])).run Try.prog w = .ok (.pointer (some ⟨w.heap.size, 0, none⟩)) (w.alloc (.cells z74 77)) := by kernel_rfl
theorem loadR {w : World} {g : Nat} {x : Sha.St} {p : List UInt8} {n : Nat} (hp : p.length = 64) (h : Row w g 77 (runC x p n)) : (Instr.loadAt 77 (.pointer (some ⟨g, 0, none⟩))).run Try.prog w = .ok (.agg (runC x p n)) w := by
  have := run_loadAt_mid (P := Try.prog) w g 0 77 (runC x p n).toList _ (h.range 0 _ fun j v hv => by rw [Nat.zero_add, ← Array.getElem?_toList]; exact hv) Try.underlying77 rfl (by rw [Array.length_toList, runC_size x p n hp]; exact infoR)
  rwa [Array.toArray_toList] at this
theorem storeR {x : Sha.St} {p : List UInt8} {n : Nat} (hp : p.length = 64) (w : World) : (Instr.storeAt 77 (.pointer (some ⟨w.heap.size, 0, none⟩)) (.agg (runC x p n))).run Try.prog (w.alloc (.cells z74 77)) = .ok () (w.alloc (.cells (runC x p n) 77)) :=
  run_storeAt_new w 77 z74 (runC x p n) (by rw [runC_size x p n hp]; exact infoR) (by rw [runC_size x p n hp]; rfl) (runC_one x p n)
set_option maxRecDepth 100000 in
set_option maxHeartbeats 4000000 in
theorem runSum_any (g : Nat) (l : List UInt8) (w : World) (hrun : IsRun w g l) (hmax : l.length ≤ 1000000000) :
    Calls Try.prog 29 #[.pointer (some ⟨g, 0, none⟩)] w fun e w' => e = .returned (.agg (hC (Sha.sum l))) ∧ Below w.heap.size w w' := by
  obtain ⟨p, hp, hpl, hrow⟩ := id hrun
  have hgl := hrow.lt
  obtain ⟨came, hcame⟩ : ∃ c, l.length = c := ⟨_, rfl⟩
  rw [hcame] at hrow hmax
  obtain ⟨z, hz⟩ : ∃ z, Sha.noughts came = z := ⟨_, rfl⟩
  have hzi : (119 - (came : Int) % 64) % 64 = (z : Int) := by rw [← hz]; unfold Sha.noughts; omega
  have HZI := Lib.hid hzi
  have hz63 : z ≤ 63 := by rw [← hz]; unfold Sha.noughts; omega
  have HR := Lib.hid hrun
  have HC := Lib.hid hcame
  have HZ := Lib.hid hz
  have HPL := Lib.hid hpl
  have hc72 := (hrow.cell 72).trans (runC_get72 _ _ _ hp)
  clear hrun hcame hz hpl hzi
  go_enter Try.func29, Try.ntmps29
  go_upto_region 3 with (first
    | (with_reducible refine wpList_alloc rfl 26 rfl (allocH _) ?_)
    | (go_at_call 44; refine (none_no g l _ (HR.out.later ((Later.refl w).alloc _))).mono ?_; rintro e w' ⟨rfl, rfl⟩))
  obtain ⟨bh, hbh⟩ : ∃ y, y = w.heap.size := ⟨_, rfl⟩
  rw [← hbh]
  have hrh : Row (w.alloc (.cells (hC []) 26)) bh 26 (hC []) := by rw [hbh]; exact Row.new w _ _
  have hb1 : Below w.heap.size w (w.alloc (.cells (hC []) 26)) := below_new w _
  have hL1 : Later w (w.alloc (.cells (hC []) 26)) := (Later.refl w).alloc _
  have hrow1 := hrow.later hL1
  have hz1 : (w.alloc (.cells (hC []) 26)).heap.size = bh + 1 := by rw [hbh]; simp only [World.size_alloc]
  have HBH := Lib.hid hbh
  have HZ1 := Lib.hid hz1
  clear hbh hz1 hc72
  generalize w.alloc (.cells (hC []) 26) = w1 at *
  go_cut [3] (fun q W => ∃ ge, q = .pointer (some ⟨ge, 0, none⟩) ∧ IsRun W ge l ∧ w1.heap.size ≤ ge ∧ Later w1 W)
  case first =>
    go_wp2_with (first
      | (refine wpList_load rfl 77 (.tmp 11) rfl (.pointer (some ⟨g, 0, none⟩)) rfl (loadR hp hrow1) ?_)
      | (with_reducible refine wpList_alloc rfl 77 rfl (allocR _) ?_)
      | (refine wpList_store rfl 77 (.tmp 3) (.tmp 12) rfl (.pointer (some ⟨w1.heap.size, 0, none⟩)) (.agg (runC (Sha.state l) p came)) rfl rfl (storeR hp _) ?_))
    go_meet
    exact ⟨w1.heap.size, rfl, ⟨p, hp, HPL.out, by rw [HC.out]; exact Row.new w1 _ _⟩, Nat.le_refl _, (Later.refl w1).alloc _⟩
  case rest =>
    obtain ⟨ge, rfl, hie, hge, hLe⟩ := hcut
    obtain ⟨w2, rfl⟩ : ∃ y, y = wc := ⟨_, rfl⟩
    have hge2 := hie.lt
    have hrow2 := hrow1.later hLe
    have hc72 := (hrow2.cell 72).trans (runC_get72 _ _ _ hp)
    obtain ⟨ad, cz, wz, hrunz, hrdz, hcz1, hcz2, hLz, hbz⟩ := append_z (P := Try.prog) (w2.alloc (.cells #[byteV 128] 5)) w2.heap.size 128 23 3 23 5 .i64 Try.underlying23 Try.underlying3 (info5 : ByteInfo Try.prog 5) (Row.new w2 _ _) z (by omega)
    have hL2z : Later w2 wz := ((Later.refl w2).alloc _).step hLz
    have hadge : ad.block ≠ ge := by
      have h := World.size_alloc w2 (.cells #[byteV 128] 5)
      rcases hbz with h' | h' <;> omega
    rw [← HZI.out, show byteV 128 = Value.int .u8 128 from rfl] at hrunz
    clear hLz hbz
    unfold maxLen at hcz2
    go_wp2_with (first
      | (at_builtin; (refine Lib.wpList_append_run _ rfl (.tmp 20) (.tmp 21) 23 3 rfl (.slice (some ⟨w2.heap.size, 0, none⟩) 1 1) (.int .i64 ((119 - (came : Int) % 64) % 64)) (by rfl) (by rfl) _ _ hrunz ?_)))
    have hzl : (128 :: List.replicate z (0 : UInt8)).length = 1 + z := by simp; omega
    refine (write_any ge l (some ad) (1 + z) cz (128 :: List.replicate z 0) wz (hie.later hL2z) hzl hcz1 hcz2 hrdz (fun a' e _ => by cases e; exact hadge) (by rw [HC.out]; omega)).mono ?_
    rintro e w5 ⟨rfl, hi5, hg5⟩
    have hneg : g ≠ ge := by have := HZ1.out; have := HBH.out; omega
    have hneh : bh ≠ ge := by have := HZ1.out; omega
    have hrow5 := (hrow2.later hL2z).grown hg5 (fun e => hneg (by injection e))
    have hrh5 := ((hrh.later hLe).later hL2z).grown hg5 (fun e => hneh (by injection e))
    have hbe : w.heap.size ≤ ge := by have := HZ1.out; have := HBH.out; omega
    have hb5 : Below w.heap.size w w5 := ((hb1.trans (hLe.mono hb1.size)).trans (hL2z.mono (by have := hLe.size; have := hb1.size; omega))).grown hg5 (by have := hLe.size; have := hb1.size; have := hL2z.size; omega) (fun j e => by cases e; exact hbe)
    have hc72' := (hrow5.cell 72).trans (runC_get72 _ _ _ hp)
    have hadge5 := hi5.lt
    clear hie hL2z hrdz hrunz hcz1 hcz2 hg5 hadge hzl hc72
    go_wp2_with fail
    refine (told8_any came _ (by omega)).mono ?_
    rintro e w6 ⟨v6, rfl, hown6, hb6⟩
    obtain ⟨A6, c6, rfl, _, hm6, hrd6⟩ := hown6.slice
    have hA6 : ∀ a', A6 = some a' → Sha.told (came * 8) 8 ≠ [] → a'.block ≠ ge := fun a' e _ => by
      have := (hown6.at_ a'.block (by rw [e]; rfl)).1
      omega
    rw [Sha.told_len] at *
    unfold maxLen at hm6
    have hpadl : (l ++ 128 :: List.replicate z (0 : UInt8)) ++ Sha.told (came * 8) 8 = Sha.padded l := by
      unfold Sha.padded
      rw [HC.out, HZ.out]
      rfl
    have HPAD := Lib.hid hpadl
    clear hpadl
    go_wp2_with fail
    refine (write_any ge (l ++ 128 :: List.replicate z 0) A6 8 c6 (Sha.told (came * 8) 8) w6 (hi5.later hb6) (Sha.told_len _ _) (by omega) (by omega) hrd6 hA6 (by simp only [List.length_append, List.length_cons, List.length_replicate, HC.out]; omega)).mono ?_
    rintro e w7 ⟨rfl, hi7, hg7⟩
    rw [HPAD.out] at hi7
    have hrh7 := (hrh5.later hb6).grown hg7 (fun e => hneh (by injection e))
    have hb7 : Below w.heap.size w w7 := (hb5.trans (hb6.mono hb5.size)).grown hg7 (by have := hb5.size; have := Below.size hb6; omega) (fun j e => by cases e; exact hbe)
    have hs7 : bh < w7.heap.size := hrh7.lt
    have hs7w : w.heap.size ≤ bh := by have := HBH.out; omega
    obtain ⟨p7, hp7, _, hrow7⟩ := hi7
    have hld7 := loadS (o := 0) hrow7 (fun i hi => runC_state _ _ _ i hi)
    obtain ⟨y, hy⟩ : ∃ y, Sha.state (Sha.padded l) = y := ⟨_, rfl⟩
    rw [hy] at hld7
    have hsum : Sha.sum l = preC y 8 := by rw [← hy]; rfl
    have HSUM := Lib.hid hsum
    have h00 : hC (preC y 0) = hC [] := rfl
    have H00 := Lib.hid h00
    clear hy hsum h00 hi5 hrow7 hp7 hrd6 hown6 hrh5 hrow5 hrow2 hrow1 hc72' hA6 hb5 hb6 hg7
    go_upto_region 7 with fail
    go_wp2_with (first | (refine wpList_load rfl 41 (.tmp 33) rfl (.pointer (some ⟨ge, 0, none⟩)) rfl hld7 ?_))
    go_loopw [5, 6, 35] (fun _ _ t wr => ∃ k : Nat, k ≤ 8 ∧ t = .int .i64 k ∧ Row wr bh 26 (hC (preC y k)) ∧ Below w.heap.size w wr) (fun _ _ t _ => 8 - (intOf t).toNat)
    case atStart => exact ⟨0, by omega, rfl, by rw [H00.out]; exact hrh7, hb7⟩
    case round =>
      obtain ⟨k, hk, rfl, hrk, hbk⟩ := hrel
      clear hld7 hrh7 hb7
      by_cases hlt : k < 8
      · have hix := fun w' : World => idxAgg (W := w') hlt (stC_get y 0 k hlt)
        rw [show (k + 0) % 8 = k from by omega] at hix
        have hpl := preC_len y k (by omega)
        have hnx := preC_succ y k hlt
        have HNX := Lib.hid hnx
        have HPLK := Lib.hid hpl
        have hk32 : 4 * k < 32 := by omega
        clear hnx hpl
        obtain ⟨xk, hxk⟩ : ∃ v, y.get k = v := ⟨_, rfl⟩
        rw [hxk] at hix
        have HXK := Lib.hid hxk
        clear hxk
        have hx64 : xk.toNat < 18446744073709551616 := by have := xk.isLt; omega
        have hxl := xk.isLt
        go_upto_region 10 with fail
        refine (wpIn_wide (n := 0)).1 ?_
        refine wpIn_region_last wide_wide [Pr.eq (.int .i64 (k : Int)), Pr.eq (.int .i64 ((4 * k : Nat) : Int)), Pr.eq (.slice (some ⟨bh, 4 * k, none⟩) (32 - 4 * k) (32 - 4 * k)), Pr.eq (.int .u32 (xk.toNat : Int)), Pr.eq (.int .u64 (xk.toNat : Int)), Pr.rd 4 (Sha.told xk.toNat 4)] (by kernel_rfl) (by kernel_rfl) (by kernel_rfl) (by kernel_rfl) (by kernel_rfl) (by kernel_rfl) rfl ⟨?_, ?_, ?_, ?_, ?_, ?_, trivial⟩ ?_
        · exact fun ac W hL he => stepOk_want rfl (op_move rfl (he.keep (.tmp 5) (by kernel_rfl)))
        · exact fun ac W hL he => stepOk_want rfl (op_binOp rfl rfl (he.get 0 39 (by kernel_rfl) rfl) eqg_mul (mulI4 hlt) rfl)
        · exact fun ac W hL he => stepOk_want rfl (op_slice (W' := W) rfl (he.keep (.tmp 2) (by kernel_rfl)) (congrArg some (he.get 1 40 (by kernel_rfl) rfl)) (rfl : _ = none) rfl ((sliceH hk32) W) rfl)
        · exact fun ac W hL he => stepOk_want rfl (op_move rfl (he.keep (.tmp 6) (by kernel_rfl)))
        · exact fun ac W hL he => stepOk_want rfl (op_convert rfl (he.get 3 42 (by kernel_rfl) rfl) (conv32 xk W) (Later.refl _) rfl)
        · intro ac W hL he; refine stepOk_want rfl ?_; have e0 : ac.eval (.tmp 43) = (.int .u64 (xk.toNat : Int)) := (he.get 4 43 (by kernel_rfl) rfl); exact op_callF (vs := #[.int .u64 (xk.toNat : Int), .int .i64 4]) rfl (by simp only [List.map_toArray, List.map_cons, List.map_nil, e0]; rfl) (enters_of Try.func45 (by kernel_rfl) rfl) ((told4_any xk.toNat W hx64).mono fun e W' ⟨v, he', hown, hb⟩ => ⟨v, he', hb, by obtain ⟨A', c', rfl, hc', _, hr'⟩ := hown.slice; exact ⟨A', c', by rw [Sha.told_len], by rw [Sha.told_len] at hc'; exact hc', hr'⟩⟩)
        · intro xs w9 hL9 hx hk hg
          have e1 := hg 2 41 (by decide) (by kernel_rfl)
          have e2 := hg 5 44 (by decide) (by kernel_rfl)
          have v1 : xs 2 = .slice (some ⟨bh, 4 * k, none⟩) (32 - 4 * k) (32 - 4 * k) := hx 2 (by decide)
          obtain ⟨A9, c9, v2, _, hrd9⟩ : ∃ A c, xs 5 = .slice A 4 c ∧ 4 ≤ c ∧ Rd w9 A (Sha.told xk.toNat 4) := hx 5 (by decide)
          rw [v1] at e1
          rw [v2] at e2
          have hrk9 := hrk.later hL9
          have hbk9 : Below w.heap.size w w9 := hbk.trans (hL9.mono hbk.size)
          clear hx hk hg v1 v2
          refine ⟨op_copy_rd (.tmp 41) (.tmp 44) 23 23 rfl 5 Try.underlying23 (by kernel_rfl) bh (4 * k) (32 - 4 * k) (32 - 4 * k) A9 4 c9 (Sha.told xk.toNat 4) (Sha.told_len _ _) hrd9 e1 e2 _ _ hrk9 4 (by omega) (by rw [hC_size _ (by rw [HPLK.out]; omega)]; omega) ?_⟩
          intro w10 hrow10 hg10
          rw [List.take_of_length_le (by rw [Sha.told_len]; omega)] at hrow10
          have hcp := hC_copy (preC y k) (Sha.told xk.toNat 4) (by rw [HPLK.out, Sha.told_len]; omega)
          rw [HPLK.out, ← HXK.out, ← HNX.out] at hcp
          rw [← HXK.out, hcp] at hrow10
          have hb10 := hbk9.grown hg10 hbk9.size (fun j e => by cases e; exact hs7w)
          clear hcp e1 e2 hrk9 hrd9 hg10
          simp only [initL, lastL, putL, Nat.reduceAdd, Act.put, List.setIfInBounds_toArray, List.set_cons_succ, List.set_cons_zero]
          go_wp2_with fail
          go_roundw
          case rel => exact ⟨k + 1, by omega, by go_num, hrow10, hb10⟩
          case measure => simp [intOf]; omega
      · obtain rfl : k = 8 := by omega
        rw [← HSUM.out] at hrk
        have hsz := hC_size (Sha.sum l) (by rw [Sha.sum_len]; omega)
        have hldh : (Instr.loadAt 26 (.pointer (some ⟨bh, 0, none⟩))).run Try.prog wr = .ok (.agg (hC (Sha.sum l))) wr := by
          have := run_loadAt_mid (P := Try.prog) wr bh 0 26 (hC (Sha.sum l)).toList _ (hrk.range 0 _ fun j v hv => by rw [Nat.zero_add, ← Array.getElem?_toList]; exact hv) Try.underlying26 rfl (by rw [Array.length_toList, hsz]; exact infoH)
          rwa [Array.toArray_toList] at this
        go_wp2_with (first
          | (refine wpList_load rfl 26 (.tmp 2) rfl (.pointer (some ⟨bh, 0, none⟩)) rfl hldh ?_)
          | (refine wpList_store rfl 26 (.tmp 2) (.tmp 47) rfl (.pointer (some ⟨bh, 0, none⟩)) (.agg (hC (Sha.sum l))) rfl rfl (run_store_row hrk (hC (Sha.sum l)) (by rw [hsz]; exact infoH) (by rw [hsz]; omega) (hC_one _)) ?_))
        have hr2 := row_setCells (hC (Sha.sum l)).toList 0 wr _ hrk
        rw [setFrom_whole _ _ (by rw [Array.length_toList]), Array.toArray_toList] at hr2
        refine bodyPost_ret (results_cell_row rfl _ _ bh 26 (hC (Sha.sum l)) (0, 0) _ rfl hr2 Try.underlying26 rfl (by rw [hsz]; exact infoH)) rfl ⟨rfl, hbk.grown (grown_setCells _ _ _) hbk.size (fun j e => by cases e; exact hs7w)⟩
end Go.Proofs.Ytfconncnccgenaa
