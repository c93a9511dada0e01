/- money: an amount's parts, told one behind the other: the iterators. -/
import Derived.Test.YtcfhhljjknmniaaDoorRangeM
set_option linter.unusedVariables false
set_option linter.unusedSimpArgs false
namespace Go.Proofs.YtcfhhljjknmniaaDoor
open Go.RowKit
attribute [local go_sem] Oper.semAt_some
theorem name_frame {P : Program} {c : Code} {Q : Exit → Act → World → Prop} {tm : Array Value} {d : List Deferred} {w : World} (h : ∀ T, T = tm → c.wp P Q { tmps := T, defers := d } w) : c.wp P Q { tmps := tm, defers := d } w := h tm rfl
theorem wpListIn_load {F : Fence} {n : Nat} {P : Program} {w : World} {ops : Array Oper} {rest : List Oper} {o : Oper} {a : Act} {Q : Exit → Act → World → Prop} (hgd : o.guard = none) (T : TypeId) (x : Operand) (ho : o.op = .load T x) (vx : Value) (hx : a.eval x = vx) {v : Value} {w' : World}
    (hr : (Instr.loadAt T vx).run P w = .ok v w') (h : wpListIn F n P ops Q rest (a.put o.dst v) w') : wpListIn F n P ops Q (o :: rest) a w := by
  refine wpListIn_plain hgd fun K hK => ?_
  unfold Oper.wpIn
  refine ⟨?_, ?_⟩
  · simp [Oper.about, ho]
  · rw [Oper.semAt_plain F _ _ (by rw [ho]; intro c hc'; cases hc')]
    simp [execOp, ho, hx, hr, Result.andThen]
    exact hK _ _ h
theorem counted_any (m : Int) (w : World) : Calls Tryd.prog 42 #[.int .i64 m] w fun e w' => w' = w.alloc (.cells #[.int .i64 m] 3) ∧ e = .returned (.func (.func 65) #[] #[.pointer (some ⟨w.heap.size, 0, none⟩)]) := by
  have hmf : ∀ (fn : Fn) (first cap : Array Value) (w : World), (Instr.makeFunc fn first cap).run Tryd.prog w = .ok (.func fn first cap) w := fun _ _ _ _ => rfl
  go_enter Tryd.func42, Tryd.ntmps42
  go_wp2
  go_ret
  exact ⟨rfl, rfl⟩
theorem parts_any (a m : Int) (w : World) : Calls Tryd.prog 27 #[.int .i64 a, .int .i64 m] w fun e w' => w' = (w.alloc (.cells #[.int .i64 a] 2)).alloc (.cells #[.int .i64 m] 3) ∧ e = .returned (.func (.func 41) #[] #[.pointer (some ⟨w.heap.size, 0, none⟩), .pointer (some ⟨w.heap.size + 1, 0, none⟩)]) := by
  have hmf : ∀ (fn : Fn) (first cap : Array Value) (w : World), (Instr.makeFunc fn first cap).run Tryd.prog w = .ok (.func fn first cap) w := fun _ _ _ _ => rfl
  go_enter Tryd.func27, Tryd.ntmps27
  go_wp2
  go_ret
  exact ⟨rfl, rfl⟩
abbrev ixE (i : Nat) : Array Value := #[.int .i64 (i : Int)]
set_option maxRecDepth 100000 in
set_option maxHeartbeats 4000000 in
theorem counted1_seq (m gm : Nat) (w : World) (n1 : Nat) (hn1 : 1 ≤ n1) (hm : m ≤ 1000) (Kp : Nat → World → World → Prop) (hk : Row w gm 3 #[.int .i64 (m : Int)]) :
    SeqW Fence.wide n1 Tryd.prog 65 #[.pointer (some ⟨gm, 0, none⟩)] ixE Kp (fun xs => xs.length = m) (fun _ => True) (fun pre i _ => i = pre.length ∧ i < m) (fun _ => False) w := fun k0 J Jx W hW hW2 hJ hJx hY h0 => by
  have hkW := hk.belowAll hW
  have HY := Lib.hid hY
  clear hY hJ hJx hk hW hW2
  have c1 : W.cell? ⟨gm, 0, none⟩ = some (.int .i64 (m : Int)) := (hkW.cell 0).trans rfl
  refine callsIn_of_wp Tryd.func65 rfl trivial ?_ rfl
  simp only [Tryd.ntmps65, List.size_toArray, List.length_cons, List.length_nil, Nat.reduceAdd, Nat.reduceSub, Array.replicate_succ, Array.replicate_zero, List.push_toArray, List.append_toArray, List.nil_append, List.cons_append]
  gi_wp2
  gi_loopw [5] (fun v wr => ∃ pre : List Nat, pre.length ≤ m ∧ v = .int .i64 (pre.length : Int) ∧ J pre wr) (fun v _ => m - (intOf v).toNat)
  case atStart => exact ⟨[], by simp, rfl, h0⟩
  case round =>
    obtain ⟨pre, hpl, rfl, hJs⟩ := hrel
    clear hkW c1 h0
    by_cases hlt : pre.length < m
    · have hd : decide ((pre.length : Int) < (m : Int)) = true := decide_eq_true (by omega)
      have hd' : decide (pre.length < m) = true := decide_eq_true hlt
      obtain ⟨fn, tmps, assign, body, hy, hR⟩ := HY.out pre pre.length wr hJs ⟨rfl, hlt⟩
      gi_wp2_with fail
      refine hR.mono ?_
      rintro e W5 (⟨rfl, hJ5, _⟩ | ⟨rfl, hJx5, _⟩)
      · gi_wp2
        go_roundw
        case rel => exact ⟨pre ++ [pre.length], by simp; omega, by rw [List.length_append, List.length_singleton]; go_num, hJ5⟩
        case measure => simp [intOf]; omega
      · gi_wp2
        exact bodyPost_ret (results_none rfl _ _ _) rfl ⟨⟨_, rfl⟩, .inr ⟨_, trivial, hJx5⟩⟩
    · have hpm : pre.length = m := by omega
      have hd : decide ((pre.length : Int) < (m : Int)) = false := decide_eq_false (by omega)
      have hd' : decide (pre.length < m) = false := decide_eq_false (by omega)
      gi_wp2
      go_end0
      exact ⟨⟨_, rfl⟩, .inl ⟨pre, hpm, hJs⟩⟩
/-- The parts of an amount. -/
def partAt (a m i : Nat) : Nat := a / m + (if i < a % m then 1 else 0)
structure Pt where
  i : Int
  x : Int
abbrev ptE (p : Pt) : Array Value := #[.int .i64 p.i, .int .i64 p.x]
/-- A round keeps all blocks but those of D. -/
structure KeepD {α : Type} (D : Nat → Prop) (x : α) (X Y : World) : Prop where
  size : X.heap.size ≤ Y.heap.size
  block : ∀ b, b < X.heap.size → ¬ D b → Y.heap[b]? = X.heap[b]?
section
variable {α : Type} {D D' : Nat → Prop} {x : α} {X Y Z : World}
theorem KeepD.refl : KeepD D x X X := ⟨Nat.le_refl _, fun _ _ _ => rfl⟩
theorem KeepD.trans (h : KeepD D x X Y) (k : KeepD D x Y Z) : KeepD D x X Z := ⟨Nat.le_trans h.size k.size, fun b hb hd => (k.block b (Nat.lt_of_lt_of_le hb h.size) hd).trans (h.block b hb hd)⟩
theorem KeepD.mono {β : Type} {y : β} (h : KeepD D x X Y) (hD : ∀ b, D b → D' b) : KeepD D' y X Y := ⟨h.size, fun b hb hd => h.block b hb (fun k => hd (hD b k))⟩
theorem KeepD.row {g : Nat} {t : TypeId} {cs : Array Value} (h : KeepD D x X Y) (hr : Row X g t cs) (hd : ¬ D g) : Row Y g t cs := (h.block g hr.lt hd).trans hr
theorem KeepD.put (W : World) {l : Nat} (o : Obj) (hl : D l) : KeepD D x W (W.putObj l o) := ⟨by simp [World.putObj], fun b hb hd => World.putObj_heap_other (fun e => hd (e ▸ hl))⟩
theorem KeepD.set (W : World) (p : Addr) (v : Value) (hp : D p.block) : KeepD D x W (W.setCell p v) := ⟨by simp [World.setCell], fun b hb hd => Below.heap_setCell W p v b (fun e => hd (e ▸ hp))⟩
theorem KeepD.later (h : Later X Y) : KeepD D x X Y := ⟨h.size, fun b hb _ => Below.block h b hb⟩
theorem KeepD.from {B : Nat} (h : KeepD D x X Y) (hD : ∀ b, D b → b < B) : KeepsFrom B X Y := ⟨h.size, fun k o hk hko hc => (h.block k (Array.getElem?_eq_some_iff.1 hko).1 (fun hd => by have := hD k hd; omega)).trans hko⟩
end
theorem loadFn2 {b o : Nat} {v : Value} {W : World} (hc : W.cell? ⟨b, o, none⟩ = some v) : (Instr.loadAt 73 (.pointer (some ⟨b, o, none⟩))).run Tryd.prog W = .ok v W := by
  go_simp
theorem loadI64 {b o : Nat} {z : Int} {W : World} (hc : W.cell? ⟨b, o, none⟩ = some (.int .i64 z)) : (Instr.loadAt 2 (.pointer (some ⟨b, o, none⟩))).run Tryd.prog W = .ok (.int .i64 z) W := by
  go_simp
set_option maxRecDepth 100000 in
set_option maxHeartbeats 4000000 in
theorem parts1_seq (a m ga gm : Nat) (w : World) (n1 : Nat) (hn1 : 3 ≤ n1) (D : Nat → Prop) (hDw : ∀ b, D b → b < w.heap.size + 2) (hDa : ¬ D ga) (hDm : ¬ D gm) (ha : a ≤ 1125899906842624) (hm1 : 1 ≤ m) (hm : m ≤ 1000) (hka : Row w ga 2 #[.int .i64 (a : Int)]) (hkm : Row w gm 3 #[.int .i64 (m : Int)]) :
    SeqW Fence.wide n1 Tryd.prog 41 #[.pointer (some ⟨ga, 0, none⟩), .pointer (some ⟨gm, 0, none⟩)] ptE (KeepD D) (fun xs => xs.length = m) (fun _ => True) (fun pre p _ => pre.length < m ∧ p.i = pre.length ∧ p.x = partAt a m pre.length) (fun _ => False) w := fun k0 J Jx W hW hW2 hJ hJx hY h0 => by
  have hkaW := hka.belowAll hW
  have hkmW := hkm.belowAll hW
  have hga : ga < w.heap.size := hka.lt
  have hgm : gm < w.heap.size := hkm.lt
  have hWs := hW.size
  have HY := Lib.hid hY
  have HJ := Lib.hid hJ
  have HJx := Lib.hid hJx
  have hok : amts [(a : Int)] = true := by simp [amts, bad, maxAmt]; omega
  clear hY hJ hJx hka hkm hW
  refine callsIn_of_wp_marks Tryd.func41 rfl trivial ?_ rfl
  simp only [Tryd.ntmps41, List.size_toArray, List.length_cons, List.length_nil, Nat.reduceAdd, Nat.reduceSub, Array.replicate_succ, Array.replicate_zero, List.push_toArray, List.append_toArray, List.nil_append, List.cons_append]
  refine wpIn_wide.2 ?_
  have hy0 := (Row.new W 73 #[.func (.yield k0) #[] #[]]).alloc (.cells #[.int .i64 (a : Int)] 2)
  have c1 : (W.alloc (.cells #[.func (.yield k0) #[] #[]] 73)).cell? ⟨ga, 0, none⟩ = some (.int .i64 (a : Int)) := ((hkaW.alloc _).cell 0).trans rfl
  have ka2 := (hkaW.alloc (.cells #[.func (.yield k0) #[] #[]] 73)).alloc (.cells #[.int .i64 (a : Int)] 2)
  have km2 := (hkmW.alloc (.cells #[.func (.yield k0) #[] #[]] 73)).alloc (.cells #[.int .i64 (a : Int)] 2)
  have hck := check_any (some ⟨W.heap.size + 1, 0, none⟩) 1 1 [(a : Int)] _ rfl (by omega) (rd1Z1 (a : Int) W (.cells #[.func (.yield k0) #[] #[]] 73))
  rw [hok] at hck
  have hL0 := ((Later.refl W).alloc (.cells #[.func (.yield k0) #[] #[]] 73)).alloc (.cells #[.int .i64 (a : Int)] 2)
  have dm1 : decide ((m : Int) < 1) = false := decide_eq_false (by omega)
  have dm2 : decide ((1000 : Int) < (m : Int)) = false := decide_eq_false (by omega)
  clear hok
  go_wp2_with fail
  go_step3
  go_upto_region 2 with (first
    | (refine wpList_buildSl rfl 22 1 _ rfl #[(0, .int .i64 _)] rfl (build1Z _ _) ?_)
    | (go_at_call 16; refine hck.mono ?_; clear hck; rintro e w1 ⟨rfl, hL1⟩; have ka3 := ka2.later hL1; have km3 := km2.later hL1; have hy1 := hy0.later hL1; have hLa := hL0.step hL1; have hsz1 := hL1.size; have c2 : w1.cell? ⟨gm, 0, none⟩ = some (.int .i64 (m : Int)) := (km3.cell 0).trans rfl; clear ka2 km2 hy0 hL0 hL1 c1)
    | fail)
  have kn := Row.new w1 2 #[.int .i64 (m : Int)]
  have c2' : (w1.alloc (.cells #[.int .i64 (m : Int)] 2)).cell? ⟨gm, 0, none⟩ = some (.int .i64 (m : Int)) := ((km3.alloc (.cells #[.int .i64 (m : Int)] 2)).cell 0).trans rfl
  go_upto_region 3 with fail
  go_wp2_with fail
  go_step3
  have hcn := counted_any (m : Int) (w1.alloc (.cells #[.int .i64 (m : Int)] 2))
  rw [World.size_alloc] at hcn
  go_wp2_with (first
    | (go_at_call 42; refine hcn.mono ?_; clear hcn; rintro e w2 ⟨rfl, rfl⟩)
    | fail)
  obtain ⟨q0, hq0⟩ : ∃ q, W.heap.size = q := ⟨_, rfl⟩
  obtain ⟨q, hq⟩ : ∃ q, w1.heap.size = q := ⟨_, rfl⟩
  have k3 := Row.new (w1.alloc (.cells #[.int .i64 (m : Int)] 2)) 3 #[.int .i64 (m : Int)]
  have kn3 := kn.alloc (.cells #[.int .i64 (m : Int)] 3)
  have ka4 := (ka3.alloc (.cells #[.int .i64 (m : Int)] 2)).alloc (.cells #[.int .i64 (m : Int)] 3)
  have hy4 := (hy1.alloc (.cells #[.int .i64 (m : Int)] 2)).alloc (.cells #[.int .i64 (m : Int)] 3)
  have hL4 : Later W ((w1.alloc (.cells #[.int .i64 (m : Int)] 2)).alloc (.cells #[.int .i64 (m : Int)] 3)) := (hLa.alloc _).alloc _
  have hs4 : ((w1.alloc (.cells #[.int .i64 (m : Int)] 2)).alloc (.cells #[.int .i64 (m : Int)] 3)).heap.size = q + 2 := by rw [World.size_alloc, World.size_alloc, hq]
  rw [World.size_alloc, hq] at k3
  rw [hq] at kn3
  rw [hq0] at hy4
  have hqq : q0 + 2 ≤ q := by
    have := hsz1
    rw [World.size_alloc, World.size_alloc, hq, hq0] at this
    omega
  clear kn c2' c2 km3 ka3 hy1 hLa hsz1
  rw [hq0, hq]
  generalize (w1.alloc (.cells #[.int .i64 (m : Int)] 2)).alloc (.cells #[.int .i64 (m : Int)] 3) = w4 at *
  have hJ4 := HJ.out.below h0 hL4
  have hD4 : ∀ b, D b → b < q0 := fun b hb => by have := hDw b hb; omega
  refine name_frame fun T0 hT0 => ?_
  have hseq := counted1_seq m (q + 1) w4 (n1 - 1) (by omega) hm (KeepD (fun b => D b ∨ b = w4.heap.size + 1)) k3
  refine (wpIn_wide (n := n1)).1 ?_
  refine wpIn_range_W (α := Nat) (Kp := KeepD (fun b => D b ∨ b = w4.heap.size + 1)) rfl (by omega) (gf := 65) (lb := #[.pointer (some ⟨q + 1, 0, none⟩)]) (by rw [hT0]; rfl) trivial (enters_of Tryd.func65 (by kernel_rfl) rfl)
    hseq (fun r h => h.elim) (fun h k => h.trans k) (fun x W' o => KeepD.put W' o (.inr rfl)) (Below.refl _ _) (fun _ => rfl)
    (fun pre X => (∃ pre' : List Pt, pre'.length = pre.length ∧ J pre' X) ∧ Row X ga 2 #[.int .i64 (a : Int)] ∧ Row X q 2 #[.int .i64 (m : Int)] ∧ Row X q0 73 #[.func (.yield k0) #[] #[]])
    (fun c _ X => c = Code.exit 0 ∧ ∃ pre' : List Pt, Jx pre' X)
    (fun pre X Y ⟨⟨pre', h1, h2⟩, h3, h4, h5⟩ hs => ⟨⟨pre', h1, HJ.out _ _ _ h2 (hs.mono fun k hk => ⟨by omega, fun h => h⟩)⟩, h3.same hs ⟨by omega, fun h => h⟩, h4.same hs ⟨by omega, fun h => h⟩, h5.same hs ⟨by omega, fun h => h⟩⟩)
    (fun c pre X Y ⟨h1, pre', h2⟩ hs => ⟨h1, pre', HJx.out _ _ _ h2 (hs.mono fun k hk => ⟨by omega, fun h => h⟩)⟩)
    ⟨⟨[], rfl, hJ4⟩, ka4, kn3, hy4⟩
    (fun pre x a' X => a' = { tmps := (T0.setIfInBounds 22 (.int .i64 (x : Int))).setIfInBounds 5 (.int .i64 (x : Int)), defers := [] } ∧ x = pre.length ∧ x < m)
    (fun pre x a' X o h => h) ?assign ?body ?done ?stop
  case assign =>
    intro l0 pre x X K hXs hi hok hK
    have HK := Lib.hid hK
    have HI := Lib.hid hi
    have HOK := Lib.hid hok
    clear hK hi hok
    have e89 : ((#[22] : Array Tmp).zip (ixE x)).foldl (fun t (p, v) => t.setIfInBounds p v) T0 = T0.setIfInBounds 22 (.int .i64 (x : Int)) := by simp
    rw [e89, hT0]
    clear e89
    simp only [List.setIfInBounds_toArray, List.set_cons_succ, List.set_cons_zero]
    gi_wp2
    exact HK.out _ _ (KeepsFrom.refl _ _) KeepD.refl HI.out ⟨by rw [hT0]; rfl, HOK.out⟩
  case body =>
    rintro l0 pre x a' X hl hlo hXs ⟨⟨pre', h1, h2⟩, h3, h4, h5⟩ ⟨rfl, hx, hxm⟩
    have c1 : X.cell? ⟨ga, 0, none⟩ = some (.int .i64 (a : Int)) := (h3.cell 0).trans rfl
    have c2 : X.cell? ⟨q, 0, none⟩ = some (.int .i64 (m : Int)) := (h4.cell 0).trans rfl
    have c3 : X.cell? ⟨q0, 0, none⟩ = some (.func (.yield k0) #[] #[]) := (h5.cell 0).trans rfl
    have hl1 := loadI64 c1
    have hl2 := loadI64 c2
    have hl3 := loadFn2 c3
    have hplen : (pre ++ [x]).length = pre.length + 1 := by simp
    obtain ⟨qu, hqu⟩ : ∃ u, a / m = u := ⟨_, rfl⟩
    obtain ⟨re, hre⟩ : ∃ u, a % m = u := ⟨_, rfl⟩
    have hqb : qu ≤ 1125899906842624 := by rw [← hqu]; exact Nat.le_trans (Nat.div_le_self _ _) ha
    have e1 : (a : Int) / (m : Int) = (qu : Int) := by rw [← hqu]; exact (Int.natCast_ediv a m).symm
    have e2 : (a : Int) % (m : Int) = (re : Int) := by rw [← hre]; exact (Int.natCast_emod a m).symm
    have e0 : (0 : Int) ≤ (a : Int) := by omega
    have em : (0 : Int) < (m : Int) := by omega
    have em0 : ((m : Int) = 0) = False := eq_false (by omega)
    subst hx
    by_cases hxr : pre.length < re
    · have hp : partAt a m pre.length = qu + 1 := by unfold partAt; rw [hqu, hre, if_pos hxr]
      have hd : decide ((pre.length : Int) < (re : Int)) = true := decide_eq_true (by omega)
      obtain ⟨fn, tmps, assign, body, hy, hR⟩ := YieldAt.inRound (l' := l0) (k := n1 - 1 - 1 - 1) (HY.out pre' ⟨(pre.length : Int), (qu : Int) + 1⟩ X h2 ⟨by rw [h1]; exact hxm, by rw [h1], by rw [h1, hp]; rfl⟩)
      rw [hT0]
      simp only [List.setIfInBounds_toArray, List.set_cons_succ, List.set_cons_zero]
      clear hp hqu hre hseq
      gi_wp2_with (first
        | (refine wpListIn_load rfl 2 (.tmp 1) rfl (.pointer (some ⟨ga, 0, none⟩)) rfl hl1 ?_)
        | (refine wpListIn_load rfl 2 (.tmp 4) rfl (.pointer (some ⟨q, 0, none⟩)) rfl hl2 ?_)
        | (refine wpListIn_load rfl 73 (.tmp 3) rfl (.pointer (some ⟨q0, 0, none⟩)) rfl hl3 ?_)
        | fail)
      refine ⟨fun _ => by omega, hR.mono ?_⟩
      rintro e Y (⟨rfl, hJ5, hk5⟩ | ⟨rfl, hJx5, hk5⟩)
      · gi_wp2
        exact ⟨hk5.from (fun b h => by have := hD4 b h; omega), hk5.mono (fun b h => .inl h), ⟨pre' ++ [_], by simp [h1], hJ5⟩, hk5.row h3 hDa, hk5.row h4 (fun h => by have := hD4 _ h; omega), hk5.row h5 (fun h => by have := hD4 _ h; omega)⟩
      · gi_wp2
        exact ⟨hk5.from (fun b h => by have := hD4 b h; omega), hk5.mono (fun b h => .inl h), rfl, _, hJx5⟩
    · have hp : partAt a m pre.length = qu := by unfold partAt; rw [hqu, hre, if_neg hxr]; rfl
      have hd : decide ((pre.length : Int) < (re : Int)) = false := decide_eq_false (by omega)
      obtain ⟨fn, tmps, assign, body, hy, hR⟩ := YieldAt.inRound (l' := l0) (k := n1 - 1 - 1 - 1) (HY.out pre' ⟨(pre.length : Int), (qu : Int)⟩ X h2 ⟨by rw [h1]; exact hxm, by rw [h1], by rw [h1, hp]⟩)
      rw [hT0]
      simp only [List.setIfInBounds_toArray, List.set_cons_succ, List.set_cons_zero]
      clear hp hqu hre hseq
      gi_wp2_with (first
        | (refine wpListIn_load rfl 2 (.tmp 1) rfl (.pointer (some ⟨ga, 0, none⟩)) rfl hl1 ?_)
        | (refine wpListIn_load rfl 2 (.tmp 4) rfl (.pointer (some ⟨q, 0, none⟩)) rfl hl2 ?_)
        | (refine wpListIn_load rfl 73 (.tmp 3) rfl (.pointer (some ⟨q0, 0, none⟩)) rfl hl3 ?_)
        | fail)
      refine ⟨fun _ => by omega, hR.mono ?_⟩
      rintro e Y (⟨rfl, hJ5, hk5⟩ | ⟨rfl, hJx5, hk5⟩)
      · gi_wp2
        exact ⟨hk5.from (fun b h => by have := hD4 b h; omega), hk5.mono (fun b h => .inl h), ⟨pre' ++ [_], by simp [h1], hJ5⟩, hk5.row h3 hDa, hk5.row h4 (fun h => by have := hD4 _ h; omega), hk5.row h5 (fun h => by have := hD4 _ h; omega)⟩
      · gi_wp2
        exact ⟨hk5.from (fun b h => by have := hD4 b h; omega), hk5.mono (fun b h => .inl h), rfl, _, hJx5⟩
  case done =>
    rintro D0 xs X hD hS ⟨⟨pre', h1, h2⟩, h3, h4, h5⟩ hK
    change Exit.noGoto _ Exit.normal _ _
    rw [Exit.noGoto_normal]
    refine ⟨by simp, .inl ⟨_, _, rfl, run_takeDeferred hK, ?_⟩⟩
    refine ⟨_, results_none rfl _ _ _, ⟨_, rfl⟩, .inl ⟨pre', by rw [h1]; exact hS, ?_⟩⟩
    exact HJ.out.below h2 (below_put _ _ _ _ (by omega) (by have := (Array.getElem?_eq_some_iff.1 hK).1; omega))
  case stop =>
    rintro D0 c' pre X hD hSp ⟨rfl, pre', h2⟩ hK
    gi_wp2
    rw [Exit.noGoto_normal]
    refine ⟨by simp, .inl ⟨_, _, rfl, run_takeDeferred hK, ?_⟩⟩
    refine ⟨_, results_none rfl _ _ _, ⟨_, rfl⟩, .inr ⟨pre', trivial, ?_⟩⟩
    exact HJx.out.below h2 (below_put _ _ _ _ (by omega) (by have := (Array.getElem?_eq_some_iff.1 hK).1; omega))
end Go.Proofs.YtcfhhljjknmniaaDoor
