/- Walks: a stream's frames (wire.Frames and its iterator). -/
import Derived.Test.YtmipaacobioakaaWr39
set_option linter.unusedVariables false
set_option linter.unusedSimpArgs false
namespace Go.Proofs.Ytmipaacobioakaa
open Go.RowKit
attribute [local go_sem] Oper.semAt_some
def Wr.upto (k : Nat) (l : List UInt8) : Int := ((List.range k).map fun i => Wr.size i l).sum
theorem Wr.upto_succ (k : Nat) (l : List UInt8) : Wr.upto (k + 1) l = Wr.upto k l + Wr.size k l := by
  unfold Wr.upto
  rw [List.range_succ, List.map_append, List.sum_append]
  simp
theorem Wr.upto_le (l : List UInt8) : ∀ k, (∀ i, i < k → Wr.goes i l = true) → 0 ≤ Wr.upto k l ∧ Wr.upto k l + (Wr.rest k l).length = l.length
  | 0, _ => by simp [Wr.upto, Wr.rest]
  | k + 1, h => by
    obtain ⟨h1, h2⟩ := Wr.upto_le l k (fun i hi => h i (by omega))
    obtain ⟨b1, b2, b3⟩ := Wr.split_bounds (Wr.rest k l)
    rw [Wr.upto_succ]
    unfold Wr.size
    rw [Wr.rest, List.length_drop]
    omega
theorem name_frame {P : Program} {c : Code} {Q : Exit → Act → World → Prop} {tm : Array Value} {d : List Deferred} {w : World} (h : ∀ T, T = tm → c.wp P Q { tmps := T, defers := d } w) : c.wp P Q { tmps := tm, defers := d } w := h tm rfl
theorem KeepW.refl (D : Nat → Prop) (x : Fr) (X : World) : KeepW D x X X := ⟨Nat.le_refl _, fun _ _ _ _ => rfl⟩
theorem KeepW.mono {D D' : Nat → Prop} {x x' : Fr} {X Y : World} (h : KeepW D x X Y) (hD : ∀ b, D b → D' b) (hx : x'.A = x.A) : KeepW D' x' X Y := ⟨h.size, fun b hb hd ha => h.block b hb (fun k => hd (hD b k)) (fun o e => ha o (hx ▸ e))⟩
theorem KeepW.put {D : Nat → Prop} {x : Fr} (W : World) {l : Nat} (o : Obj) (hl : D l) : KeepW D x W (W.putObj l o) := ⟨by simp [World.putObj], fun b hb hd _ => World.putObj_heap_other (fun e => hd (e ▸ hl))⟩
theorem KeepW.set {D : Nat → Prop} {x : Fr} (W : World) (p : Addr) (v : Value) (hp : D p.block) : KeepW D x W (W.setCell p v) := ⟨by simp [World.setCell], fun b hb hd _ => Below.heap_setCell W p v b (fun e => hd (e ▸ hp))⟩
/-- What a round keeps holds of all that holds no cells, from there on. -/
theorem KeepW.from {D : Nat → Prop} {x : Fr} {X Y : World} {B : Nat} (h : KeepW D x X Y) (hD : ∀ b, D b → b < B) (hx : ∀ b o, x.A = some ⟨b, o, none⟩ → ∃ ob, X.heap[b]? = some ob ∧ ob.isCells = true) : KeepsFrom B X Y := ⟨h.size, fun k o hk hko hc => by
  have hlt := (Array.getElem?_eq_some_iff.1 hko).1
  refine (h.block k hlt (fun hd => by have := hD k hd; omega) (fun o' e => ?_)).trans hko
  obtain ⟨ob, h1, h2⟩ := hx k o' e
  rw [hko] at h1
  cases h1
  rw [hc] at h2
  cases h2⟩
theorem FrOk.cells {sum : Bool} {B : Nat} {l : List UInt8} {pre : List Fr} {x : Fr} {X : World} (h : FrOk sum B l pre x X) {b o : Nat} (e : x.A = some ⟨b, o, none⟩) : ∃ ob, X.heap[b]? = some ob ∧ ob.isCells = true := by
  rcases h.2.2.2.1.2 with ⟨e2, _⟩ | ⟨g, cap, cur, e2, hb, hh, _⟩
  · injection e2 with e2 _ _
    rw [e] at e2
    cases e2
  · injection e2 with e2 _ _
    rw [e] at e2
    injection e2 with e2
    injection e2 with e2
    subst e2
    exact ⟨_, hh, rfl⟩
theorem wpListIn_load {F : Fence} {n : Nat} {P : Program} {w : World} {ops : Array Oper} {rest : List Oper} {o : Oper} {a : Act} {Q : Exit → Act → World → Prop} (hgd : o.guard = none) (T : TypeId) (x : Operand) (ho : o.op = .load T x) (vx : Value) (hx : a.eval x = vx) {v : Value} {w' : World}
    (hr : (Instr.loadAt T vx).run P w = .ok v w') (h : wpListIn F n P ops Q rest (a.put o.dst v) w') : wpListIn F n P ops Q (o :: rest) a w := by
  refine wpListIn_plain hgd fun K hK => ?_
  unfold Oper.wpIn
  refine ⟨?_, ?_⟩
  · simp [Oper.about, ho]
  · rw [Oper.semAt_plain F _ _ (by rw [ho]; intro c hc'; cases hc')]
    simp [execOp, ho, hx, hr, Result.andThen]
    exact hK _ _ h
section
variable {F : Fence} {n : Nat} {P : Program} {w : World} {ops : Array Oper} {rest : List Oper} {o : Oper} {a : Act} {Q : Exit → Act → World → Prop}
theorem wpListIn_allocR (hgd : o.guard = none) (T : TypeId) (ho : o.op = .alloc T) {v : Value} {w' : World} (hr : (Instr.alloc T true (.tuple #[])).run P w = .ok v w')
    (h : wpListIn F n P ops Q rest (a.put o.dst v) w') : wpListIn F n P ops Q (o :: rest) a w := by
  refine wpListIn_plain hgd fun K hK => ?_
  unfold Oper.wpIn
  refine ⟨?_, ?_⟩
  · simp [Oper.about, ho]
  · rw [Oper.semAt_plain F _ _ (by rw [ho]; intro c hc'; cases hc')]
    simp [execOp, ho, hr, Result.andThen]
    exact hK _ _ h
theorem wpListIn_storeR (hgd : o.guard = none) (T : TypeId) (x y : Operand) (ho : o.op = .store T x y) (vx vy : Value) (hx : a.eval x = vx) (hy : a.eval y = vy) {w' : World} (hr : (Instr.storeAt T vx vy).run P w = .ok () w')
    (h : wpListIn F n P ops Q rest (a.put o.dst undef) w') : wpListIn F n P ops Q (o :: rest) a w := by
  refine wpListIn_plain hgd fun K hK => ?_
  unfold Oper.wpIn
  refine ⟨?_, ?_⟩
  · simp [Oper.about, ho]
  · rw [Oper.semAt_plain F _ _ (by rw [ho]; intro c hc'; cases hc')]
    simp [execOp, ho, hx, hy, hr, Result.andThen]
    exact hK _ _ h
end
theorem KeepsFrom.of_later {B : Nat} {W W' : World} (h : Later W W') : KeepsFrom B W W' := ⟨h.size, fun k o _ hk _ => (Below.block h k (Array.getElem?_eq_some_iff.1 hk).1).trans hk⟩
theorem loadFn {b o : Nat} {v : Value} {W : World} (hc : W.cell? ⟨b, o, none⟩ = some v) : (Instr.loadAt 118 (.pointer (some ⟨b, o, none⟩))).run Try.prog W = .ok v W := by
  go_simp
theorem storeInt {b o : Nat} {x y : Int} {W : World} (hc : W.cell? ⟨b, o, none⟩ = some (.int .i64 x)) (hf : W.frozen? ⟨b, o, none⟩ = false) : (Instr.storeAt 3 (.pointer (some ⟨b, o, none⟩)) (.int .i64 y)).run Try.prog W = .ok () (W.setCell ⟨b, o, none⟩ (.int .i64 y)) := by
  go_simp
theorem wsplit_any (A : Option Addr) (n c : Nat) (w : World) : Calls Try.prog 66 #[.slice A n c] w fun e w' => w' = w.alloc (.cells #[.slice A n c] 22) ∧ e = .returned (.func (.func 76) #[] #[.pointer (some ⟨w.heap.size, 0, none⟩)]) := by
  have hmf : ∀ (fn : Fn) (first cap : Array Value) (w : World), (Instr.makeFunc fn first cap).run Try.prog w = .ok (.func fn first cap) w := fun _ _ _ _ => rfl
  go_enter Try.func66, Try.ntmps66
  go_wp2
  go_ret
  exact ⟨rfl, rfl⟩
set_option maxRecDepth 100000 in
set_option maxHeartbeats 4000000 in
theorem frames1_seq (l : List UInt8) (gf gd : Nat) (A : Option Addr) (n c : Nat) (w : World) (n1 : Nat) (hn1 : 3 ≤ n1) (D : Nat → Prop) (hDw : ∀ b, D b → b < w.heap.size + 2) (hDf : ¬ D gf) (hDd : ¬ D gd) (hn : l.length = n) (hc : n ≤ c) (hcm : c ≤ 9223372036854775807) (hA : Rd w A l) (hAg : ∀ ad, A = some ad → ad.block = gd) (hk : Row w gf 22 #[.slice A n c]) (hgd : gd < w.heap.size) :
    SeqW Fence.wide n1 Try.prog 65 #[.pointer (some ⟨gf, 0, none⟩)] frE (KeepW D) (fun xs => Wr.goes xs.length l = false ∧ ∀ k, k < xs.length → Wr.goes k l = true) (fun _ => True) (FrOk true (w.heap.size + 2) l) (fun _ => False) w := fun k0 J Jx W hW hW2 hJ hJx hY h0 => by
  have hkW := hk.belowAll hW
  have hAW := hA.below hW
  have hgf : gf < w.heap.size := hk.lt
  have hmf : ∀ (fn : Fn) (first cap : Array Value) (w : World), (Instr.makeFunc fn first cap).run Try.prog w = .ok (.func fn first cap) w := fun _ _ _ _ => rfl
  have HY := Lib.hid hY
  have HJ := Lib.hid hJ
  have HJx := Lib.hid hJx
  have HN := Lib.hid hn
  clear hY hJ hJx hk hA hW hn
  refine callsIn_of_wp_marks Try.func65 rfl trivial ?_ rfl
  simp only [Try.ntmps65, List.size_toArray, List.length_cons, List.length_nil, Nat.reduceAdd, Nat.reduceSub, Array.replicate_succ, Array.replicate_zero, List.push_toArray, List.append_toArray, List.nil_append, List.cons_append]
  refine wpIn_wide.2 ?_
  have c1 : W.cell? ⟨gf, 0, none⟩ = some (.slice A n c) := (hkW.cell 0).trans rfl
  go_upto_region 2 with fail
  have hsz : W.heap.size = W.heap.size := rfl
  obtain ⟨q2, hq2⟩ : ∃ q, q = W.heap.size := ⟨_, rfl⟩
  have k2 := (Row.new W 118 #[.func (.yield k0) #[] #[]]).alloc (.cells #[.int .i64 0] 3)
  have k3 := Row.new (W.alloc (.cells #[.func (.yield k0) #[] #[]] 118)) 3 #[.int .i64 0]
  have hb3 : Below W.heap.size W ((W.alloc (.cells #[.func (.yield k0) #[] #[]] 118)).alloc (.cells #[.int .i64 0] 3)) := below_new2 W _ _
  simp only [World.size_alloc] at k3
  rw [← hq2] at k2 k3 ⊢
  have hws := wsplit_any A n c ((W.alloc (.cells #[.func (.yield k0) #[] #[]] 118)).alloc (.cells #[.int .i64 0] 3))
  have hw3s : ((W.alloc (.cells #[.func (.yield k0) #[] #[]] 118)).alloc (.cells #[.int .i64 0] 3)).heap.size = q2 + 1 + 1 := by rw [World.size_alloc, World.size_alloc, hq2]
  have HQ2 := Lib.hid hq2
  clear hq2 hsz c1
  generalize (W.alloc (.cells #[.func (.yield k0) #[] #[]] 118)).alloc (.cells #[.int .i64 0] 3) = w3 at *
  have c13 : w3.cell? ⟨gf, 0, none⟩ = some (.slice A n c) := ((hkW.belowAll hb3).cell 0).trans rfl
  go_wp2_with (first
    | (go_at_call 66; refine hws.mono ?_; clear hws; rintro e w4 ⟨rfl, rfl⟩)
    | fail)
  obtain ⟨w5, hw5⟩ : ∃ x, x = w3.alloc (.cells #[.slice A n c] 22) := ⟨_, rfl⟩
  have kb := Row.new w3 22 #[.slice A n c]
  have k25 := k2.alloc (.cells #[.slice A n c] 22)
  have k35 := k3.alloc (.cells #[.slice A n c] 22)
  have hb5 : Below W.heap.size W (w3.alloc (.cells #[.slice A n c] 22)) := hb3.alloc hb3.size _
  have hw5s : (w3.alloc (.cells #[.slice A n c] 22)).heap.size = q2 + 3 := by rw [World.size_alloc, hw3s]
  rw [hw3s] at kb
  rw [← hw5] at kb k25 k35 hb5 hw5s ⊢
  have hA5 := hAW.below hb5
  have hq2W : q2 = W.heap.size := HQ2.out
  have hD5 : ∀ b, D b → b < q2 := fun b hb => by have := hDw b hb; omega
  have hn1b : ¬ (D (q2 + 1 + 1) ∨ q2 + 1 + 1 = q2 + 1 ∨ q2 + 1 + 1 = w5.heap.size + 1) := by
    rintro (h | h | h)
    · have := hD5 _ h; omega
    · omega
    · omega
  have hn1d : ¬ (D gd ∨ gd = q2 + 1 ∨ gd = w5.heap.size + 1) := by
    rintro (h | h | h)
    · exact hDd h
    · omega
    · omega
  have hseq := split1_seq l (q2 + 1 + 1) gd A n c w5 (n1 - 1) (by omega) (fun b => D b ∨ b = q2 + 1 ∨ b = w5.heap.size + 1) hn1b hn1d HN.out hc hcm hA5 hAg kb (by omega) (by omega)
  have HS := Lib.hid hseq
  have HJ5 := HJ.out.below h0 hb5
  clear hseq h0 hkW hAW c13 hb3 hw3s k2 k3 hw5 hA5 hmf
  refine name_frame fun T0 hT0 => ?_
  refine (wpIn_wide (n := n1)).1 ?_
  refine wpIn_range_W (α := Fr) (Kp := KeepW (fun b => D b ∨ b = q2 + 1 ∨ b = w5.heap.size + 1)) rfl (by omega) (gf := 76) (lb := #[.pointer (some ⟨q2 + 1 + 1, 0, none⟩)]) (by rw [hT0]; rfl) trivial (enters_of Try.func76 (by kernel_rfl) rfl)
    HS.out (fun r h => by subst h; omega) (fun h k => h.trans k) (fun x W o => KeepW.put W o (.inr (.inr rfl))) (Below.refl _ _) (fun _ => rfl)
    (fun pre X => (∃ pre' : List Fr, pre'.length = pre.length ∧ J pre' X) ∧ (∀ i, i < pre.length → Wr.goes i l = true) ∧ Row X (q2 + 1) 3 #[.int .i64 (Wr.upto pre.length l)] ∧ Row X q2 118 #[.func (.yield k0) #[] #[]])
    (fun c _ X => c = Code.ret ∧ ∃ pre' : List Fr, Jx pre' X)
    (fun pre X Y ⟨⟨pre', h1, h2⟩, h3, h4, h5⟩ hs => ⟨⟨pre', h1, HJ.out _ _ _ h2 (hs.mono fun k hk => ⟨by omega, by omega⟩)⟩, h3, h4.same hs ⟨by omega, by omega⟩, h5.same hs ⟨by omega, by omega⟩⟩)
    (fun c pre X Y ⟨h1, pre', h2⟩ hs => ⟨h1, pre', HJx.out _ _ _ h2 (hs.mono fun k hk => ⟨by omega, by omega⟩)⟩)
    ⟨⟨[], rfl, HJ5⟩, by simp, by simpa [Wr.upto] using k35, k25⟩
    (fun pre x a' X => a' = { tmps := ((((T0.setIfInBounds 8 (.int .i64 x.at_)).setIfInBounds 9 (.slice x.A x.body.length x.c)).setIfInBounds 4 (.int .i64 x.at_)).setIfInBounds 5 (.slice x.A x.body.length x.c)), defers := [] } ∧ FrOk false (w5.heap.size + 2) l pre x X)
    (fun pre x a' X o ⟨h1, h2, h3, h4, h5, h6, h7⟩ => ⟨h1, h2, h3, h4, h5.keep (fun b _ e => World.putObj_heap_other (by intro e2; subst e2; have := (h5.at_ _ e).1; omega)), h6, by simpa [World.putObj] using h7⟩) ?assign ?body ?done ?stop
  case assign =>
    intro l0 pre x X K hXs hi hok hK
    have HK := Lib.hid hK
    have HI := Lib.hid hi
    have HOK := Lib.hid hok
    clear hK hi hok
    have e89 : ((#[8, 9] : Array Tmp).zip (frE x)).foldl (fun t (p, v) => t.setIfInBounds p v) T0 = (T0.setIfInBounds 8 (.int .i64 x.at_)).setIfInBounds 9 (.slice x.A x.body.length x.c) := by simp
    rw [e89, hT0]
    clear e89
    simp only [List.setIfInBounds_toArray, List.set_cons_succ, List.set_cons_zero]
    gi_wp2
    exact HK.out _ _ (KeepsFrom.refl _ _) (KeepW.refl _ _ _) HI.out ⟨by rw [hT0]; rfl, HOK.out⟩
  case body =>
    rintro l0 pre x a' X hl hlo hXs ⟨⟨pre', h1, h2⟩, h3, h4, h5⟩ ⟨rfl, hok⟩
    have hok' := hok
    obtain ⟨g1, g2, g3, hown, g5, g6⟩ := hok
    rw [if_neg (by simp)] at g3
    have hgo : ∀ i, i < pre.length + 1 → Wr.goes i l = true := fun i hi => by
      by_cases e : i = pre.length
      · rw [e]; exact g1
      · exact h3 i (by omega)
    have hup := Wr.upto_succ pre.length l
    rw [← g3] at hup
    obtain ⟨u1, u2⟩ := Wr.upto_le l pre.length h3
    obtain ⟨v1, v2⟩ := Wr.upto_le l (pre.length + 1) hgo
    have hb0 := (Wr.split_bounds (Wr.rest pre.length l)).1
    have hx0 : 0 ≤ x.at_ := by rw [g3]; exact hb0
    have hll : l.length ≤ 9223372036854775807 := by rw [HN.out]; omega
    obtain ⟨U, hU⟩ : ∃ U, Wr.upto pre.length l = U := ⟨_, rfl⟩
    obtain ⟨V, hV⟩ : ∃ V, Wr.upto (pre.length + 1) l = V := ⟨_, rfl⟩
    rw [hU] at h4 hup u1 u2
    rw [hV] at hup v1 v2
    have hVb : V ≤ 9223372036854775807 := by omega
    have hAb : ∀ b o, x.A = some ⟨b, o, none⟩ → w5.heap.size + 2 ≤ b := fun b o e => by have := (hown.at_ b (by rw [e]; rfl)).1; omega
    have c3 : X.cell? ⟨q2 + 1, 0, none⟩ = some (.int .i64 U) := (h4.cell 0).trans rfl
    have f3 : X.frozen? ⟨q2 + 1, 0, none⟩ = false := h4.frozen 0
    have c2 : X.cell? ⟨q2, 0, none⟩ = some (.func (.yield k0) #[] #[]) := (h5.cell 0).trans rfl
    have hset := h4.set 0 (.int .i64 V)
    have h51 := h5.far (p := ⟨q2 + 1, 0, none⟩) (by show q2 ≠ q2 + 1; omega) (.int .i64 V)
    have c21 : (X.setCell ⟨q2 + 1, 0, none⟩ (.int .i64 V)).cell? ⟨q2, 0, none⟩ = some (.func (.yield k0) #[] #[]) := (h51.cell 0).trans rfl
    have c31 : (X.setCell ⟨q2 + 1, 0, none⟩ (.int .i64 V)).cell? ⟨q2 + 1, 0, none⟩ = some (.int .i64 V) := (hset.cell 0).trans rfl
    have hJ1 : J pre' (X.setCell ⟨q2 + 1, 0, none⟩ (.int .i64 V)) := HJ.out _ _ _ h2 ((Same.set X ⟨q2 + 1, 0, none⟩ (.int .i64 V)).mono fun k hk => by show k ≠ q2 + 1; have := hk.1; omega)
    have hok1 : FrOk true (w.heap.size + 2) l pre' { x with at_ := V } (X.setCell ⟨q2 + 1, 0, none⟩ (.int .i64 V)) := by
      refine ⟨by rw [h1]; exact g1, by rw [h1]; exact g2, by rw [if_pos rfl, h1]; exact hV.symm, hown.keep (fun b _ e => ?_), by show w.heap.size + 2 ≤ x.base; omega, by { have e : (X.setCell ⟨q2 + 1, 0, none⟩ (.int .i64 V)).heap.size = X.heap.size := (by simp [World.setCell]); rw [e]; exact g6 }⟩
      exact Below.heap_setCell _ _ _ _ (by show b ≠ q2 + 1; have := (hown.at_ b e).1; omega)
    obtain ⟨fn, tmps, assign, body, hy, hR⟩ := YieldAt.inRound (l' := l0) (k := n1 - 1 - 1 - 1) (HY.out pre' { x with at_ := V } _ hJ1 hok1)
    rw [hT0]
    clear HS
    simp only [List.setIfInBounds_toArray, List.set_cons_succ, List.set_cons_zero]
    have hup' := hup.symm
    have HQ2W := Lib.hid hq2W
    have HG2 := Lib.hid g2
    have HG3 := Lib.hid g3
    have hVe := Lib.hid hV
    clear hq2W g2 g3 hU hV
    have hl1 := loadInt c3
    have hs1 := storeInt (y := V) c3 f3
    have hl2 := loadFn c21
    have hl3 := loadInt c31
    clear hup
    gi_wp2_with (first
      | (refine wpListIn_load rfl 3 (.tmp 3) rfl (.pointer (some ⟨q2 + 1, 0, none⟩)) rfl hl1 ?_)
      | (refine wpListIn_storeR rfl 3 (.tmp 3) (.tmp 12) rfl (.pointer (some ⟨q2 + 1, 0, none⟩)) (.int .i64 V) rfl rfl hs1 ?_)
      | (refine wpListIn_load rfl 118 (.tmp 2) rfl (.pointer (some ⟨q2, 0, none⟩)) rfl hl2 ?_)
      | (refine wpListIn_load rfl 3 (.tmp 3) rfl (.pointer (some ⟨q2 + 1, 0, none⟩)) rfl hl3 ?_)
      | fail)
    refine ⟨fun _ => by omega, hR.mono ?_⟩
    have hplen : (pre ++ [x]).length = pre.length + 1 := by simp
    have hkD : ∀ Y, KeepW D { x with at_ := V } (X.setCell ⟨q2 + 1, 0, none⟩ (.int .i64 V)) Y → KeepW (fun b => D b ∨ b = q2 + 1 ∨ b = w5.heap.size + 1) x X Y := fun Y hk => (KeepW.set X ⟨q2 + 1, 0, none⟩ (.int .i64 V) (.inr (.inl rfl))).trans (hk.mono (fun b h => .inl h) rfl)
    have hkF : ∀ Y, KeepW D { x with at_ := V } (X.setCell ⟨q2 + 1, 0, none⟩ (.int .i64 V)) Y → KeepsFrom w5.heap.size X Y := fun Y hk => (KeepsFrom.of_grownBy (grown_set X (q2 + 1) 0 (.int .i64 V)) (fun j e => by cases e; omega)).trans (hk.from (fun b h => by have := hD5 b h; omega) (fun b o e => hok1.cells e))
    rintro e Y (⟨rfl, hJ5, hk5⟩ | ⟨rfl, hJx5, hk5⟩)
    · gi_wp2
      refine ⟨hkF Y hk5, hkD Y hk5, ⟨pre' ++ [{ x with at_ := V }], by simp [h1], hJ5⟩, by rw [hplen]; exact hgo, ?_, ?_⟩
      · rw [hplen, hVe.out]
        exact hk5.row hset (fun h => by have := hD5 _ h; omega) (fun o e => by have := hAb _ o e; omega)
      · exact hk5.row h51 (fun h => by have := hD5 _ h; omega) (fun o e => by have := hAb _ o e; omega)
    · gi_wp2
      exact ⟨hkF Y hk5, hkD Y hk5, rfl, _, hJx5⟩
  case done =>
    rintro D0 xs X hD hS ⟨⟨pre', h1, h2⟩, h3, h4, h5⟩ hK
    refine ⟨by simp, .inl ⟨_, _, rfl, run_takeDeferred hK, ?_⟩⟩
    refine ⟨_, results_none rfl _ _ _, ⟨_, rfl⟩, .inl ⟨pre', by rw [h1]; exact hS, ?_⟩⟩
    exact HJ.out.below h2 (below_put _ _ _ _ (by omega) (by have := (Array.getElem?_eq_some_iff.1 hK).1; omega))
  case stop =>
    rintro D0 c' pre X hD hSp ⟨rfl, pre', h2⟩ hK
    gi_wp2
    refine ⟨by simp, .inl ⟨_, _, rfl, run_takeDeferred hK, ?_⟩⟩
    refine ⟨_, results_none rfl _ _ _, ⟨_, rfl⟩, .inr ⟨pre', trivial, ?_⟩⟩
    exact HJx.out.below h2 (below_put _ _ _ _ (by omega) (by have := (Array.getElem?_eq_some_iff.1 hK).1; omega))
end Go.Proofs.Ytmipaacobioakaa
