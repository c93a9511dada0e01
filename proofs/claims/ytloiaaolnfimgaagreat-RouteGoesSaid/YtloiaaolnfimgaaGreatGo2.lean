/- Joined texts: Rv2. -/
import Derived.Test.YtloiaaolnfimgaaGreatGo1
set_option linter.unusedVariables false
set_option linter.unusedSimpArgs false
set_option maxRecDepth 100000
set_option maxHeartbeats 32000000
namespace Go.Proofs.YtloiaaolnfimgaaGreat
open Go.RowKit
structure Same (p : Nat -> Prop) (w w' : World) : Prop where
 os : w'.os = w.os
 tape : w'.tape = w.tape
 output : w'.output = w.output
 size : w.heap.size <= w'.heap.size
 block : ∀ k, p k -> w'.heap[k]? = w.heap[k]?
theorem Same.refl (p : Nat -> Prop) (w : World) : Same p w w := ⟨rfl, rfl, rfl, Nat.le_refl _, fun _ _ => rfl⟩
theorem Same.trans {p : Nat -> Prop} {a b c : World} (h : Same p a b) (k : Same p b c) : Same p a c := ⟨k.os.trans h.os, k.tape.trans h.tape, k.output.trans h.output, Nat.le_trans h.size k.size, fun i hi => (k.block i hi).trans (h.block i hi)⟩
theorem Same.mono {p q : Nat -> Prop} {a b : World} (h : Same p a b) (hq : ∀ k, q k -> p k) : Same q a b := ⟨h.os, h.tape, h.output, h.size, fun k hk => h.block k (hq k hk)⟩
theorem Same.below {B : Nat} {a b : World} (h : Same (fun k => k < B) a b) : Below B a b := ⟨h.os, h.tape, h.output, h.size, h.block⟩
theorem Same.of_below {B : Nat} {a b : World} (h : Below B a b) : Same (fun k => k < B) a b := ⟨h.os, h.tape, h.output, h.size, h.block⟩
theorem Same.of_grown {row : Option Nat} {a b : World} (h : a.grownBy b row) : Same (fun k => k < a.heap.size /\ some k ≠ row) a b := ⟨h.os, h.tape, h.output, h.size, fun k hk => h.block k hk.1 hk.2⟩
theorem Same.set (w : World) (p : Addr) (v : Value) : Same (fun k => k ≠ p.block) w (w.setCell p v) := ⟨rfl, rfl, rfl, by simp [World.setCell], fun k hk => Below.heap_setCell w p v k hk⟩
theorem Same.alloc (w : World) (o : Obj) : Same (fun k => k < w.heap.size) w (w.alloc o) := ⟨rfl, rfl, rfl, by simp, fun k hk => Below.heap_alloc w o k hk⟩
theorem Row.same {p : Nat -> Prop} {w w' : World} {g : Nat} {t : TypeId} {cs : Array Value} (h : Row w g t cs) (hs : Same p w w') (hg : p g) : Row w' g t cs := (hs.block g hg).trans h
theorem Rd.same {p : Nat -> Prop} {w w' : World} {A : Option Addr} {l : List UInt8} (h : Rd w A l) (hs : Same p w w') (hg : ∀ b o, A = some ⟨b, o, none⟩ -> l ≠ [] -> p b) : Rd w' A l := fun hl => by
 obtain ⟨b, o, e, hc⟩ := h hl
 exact ⟨b, o, e, fun i hi => (World.cell?_of_block (w := w) (a := ⟨b, o + i, none⟩) (hs.block b (hg b o e hl))).trans (hc i hi)⟩
def lacksP : List PanicEntry := [{ v := .iface 192 (.agg #[]), recovered := false }]
theorem must_any (b : Bool) (w : World) : Calls Tryz.prog 85 #[.bool b] w fun e w' => w' = w /\ e = if b then .returned (.tuple #[]) else .panicked lacksP := by
 cases b
 ·go_enter Tryz.func85, Tryz.ntmps85
  go_wp2
  exact ⟨rfl, rfl, rfl⟩
 ·go_enter Tryz.func85, Tryz.ntmps85
  go_wp2
  go_end0
  exact ⟨rfl, rfl⟩
theorem bound_any (n : Int) (w : World) : Calls Tryz.prog 82 #[.int .i64 n] w fun e w' => w' = w /\ e = .returned (.int .i64 (if n < 0 then 2 else 0)) := by
 by_cases h : n < 0
 ·have hd : decide (n < 0) = true := decide_eq_true h
  go_enter Tryz.func82, Tryz.ntmps82
  go_wp2
  go_ret
  exact ⟨rfl, rfl⟩
 ·have hd : decide (n < 0) = false := decide_eq_false h
  go_enter Tryz.func82, Tryz.ntmps82
  go_wp2
  go_ret
  exact ⟨rfl, rfl⟩
def rdC (A : Option Addr) (n c : Nat) (made bad : Bool) : Array Value := #[.slice A n c, .bool made, .bool bad]
theorem rnone_yes (g : Nat) (A : Option Addr) (n c : Nat) (made bad : Bool) (w : World) (hr : Row w g 146 (rdC A n c made bad)) : Calls Tryz.prog 125 #[.pointer (some ⟨g, 0, none⟩)] w fun e w' => w' = w /\ e = .returned (.bool (!made)) := by
 have hc : w.cell? ⟨g, 1, none⟩ = some (.bool made) := (hr.cell 1).trans rfl
 have hd : decide (made = false) = !made := by cases made <;> rfl
 go_enter Tryz.func125, Tryz.ntmps125
 go_wp2
 go_ret
 exact ⟨rfl, rfl⟩
theorem rdC_ne {w : World} {g : Nat} {A : Option Addr} {n c : Nat} {made bad : Bool} {b o : Nat} {l : List UInt8} (hr : Row w g 146 (rdC A n c made bad)) (hl : l ≠ []) (hd : Rd w (some ⟨b, o, none⟩) l) : b ≠ g := fun e => by
 subst e
 obtain ⟨b', o', e', hc⟩ := hd hl
 injection e' with e'
 injection e' with e1 e2
 subst e1 e2
 have h0 := hc 0 (List.length_pos_iff.2 hl)
 rw [hr.cell] at h0
 have : ∀ (i : Nat) (v : UInt8), (rdC A n c made bad)[i]? ≠ some (byteV v) := fun i v hi => by
  rcases i with _ | _ | _ | i <;> simp [rdC, byteV] at hi
 exact this _ _ h0
theorem rtake_any (g : Nat) (A : Option Addr) (n c : Nat) (bad : Bool) (l : List UInt8) (k : Nat) (w : World) (hn : l.length = n) (hc : n <= c) (hcm : c <= 9223372036854775807) (hk : k <= 9223372036854775807) (hr : Row w g 146 (rdC A n c true bad)) (hd : Rd w A l) :
  Calls Tryz.prog 86 #[.pointer (some ⟨g, 0, none⟩), .int .i64 (k : Int)] w fun e w' => (k <= n /\ e = .returned (.slice A k c) /\ (∃ D, Row w' g 146 (rdC D (n - k) (c - k) true bad) /\ ∀ W, Rd W A l -> Rd W D (l.drop k)) /\ w.grownBy w' (some g)) \/ (n < k /\ e = .panicked lacksP /\ w' = w) := by
 have h0 : w.cell? ⟨g, 0, none⟩ = some (.slice A n c) := (hr.cell 0).trans rfl
 have hf : w.frozen? ⟨g, 0, none⟩ = false := hr.frozen 0
 by_cases h : k <= n
 ·have hle : decide (k <= n) = true := decide_eq_true h
  have hle' : decide ((k : Int) <= (n : Int)) = true := decide_eq_true (by omega)
  have hs1 : ∀ w : World, (Instr.sliceAt 60 (.slice A n c) none (some (.int .i64 (k : Int))) none).run Tryz.prog w = .ok (.slice A k c) w := run_slice_upto (k := k) Tryz.underlying60 byteInfo (by omega)
  obtain ⟨D, hs2, hD⟩ := run_slice_from (P := Tryz.prog) (t := 60) (U := 5) (A := A) (n := n) (ca := c) (k := k) Tryz.underlying60 byteInfo h hc
  go_enter Tryz.func86, Tryz.ntmps86
  go_wp2_with (first
   | (go_at_call 85; refine (must_any _ _).mono ?_; rintro e w1 ⟨rfl, rfl⟩)
   | fail)
  go_ret
  have hg := grown_set w1 g 0 (.slice D (n - k) (c - k))
  exact .inl ⟨h, rfl, ⟨D, hr.set 0 _, fun W hW => hD W l hn hW⟩, hg⟩
 ·have hle : decide (k <= n) = false := decide_eq_false h
  have hle' : decide ((k : Int) <= (n : Int)) = false := decide_eq_false (by omega)
  go_enter Tryz.func86, Tryz.ntmps86
  go_wp2_with (first
   | (go_at_call 85; refine (must_any _ _).mono ?_; rintro e w1 ⟨rfl, rfl⟩)
   | fail)
  exact ⟨rfl, .inr ⟨by omega, rfl, rfl⟩⟩
theorem infoRest : (Tryz.prog.info? 144).map (·.size) = some 1 := by kernel_rfl
theorem put_rest {w : World} {g : Nat} {A D : Option Addr} {n c n' c' : Nat} {made bad : Bool} (hr : Row w g 146 (rdC D n' c' made bad)) : ∃ w', (Instr.storeAt 144 (.pointer (some ⟨g, 0, none⟩)) (.agg #[.slice A n c])).run Tryz.prog w = .ok () w' /\ Row w' g 146 (rdC A n c made bad) /\ w.grownBy w' (some g) :=
 ⟨_, run_store_row hr #[.slice A n c] infoRest (by simp [rdC]) (by kernel_rfl), row_setCells [.slice A n c] 0 w _ hr, grown_setCells _ _ _⟩
theorem catch_panicking (q3 q6 q7 g : Nat) (T3 : TypeId) (A : Option Addr) (n c : Nat) (older : List PanicEntry) (w : World) (x : Int) (D : Option Addr) (n' c' : Nat) (b : Bool) (h7 : Row w q7 144 #[.slice A n c]) (h3 : Row w q3 T3 #[.pointer (some ⟨g, 0, none⟩)]) (h6 : Row w q6 28 #[.int .i64 x]) (hr : Row w g 146 (rdC D n' c' true b)) (h6g : q6 ≠ g) :
  CallsD Tryz.prog 126 #[.pointer (some ⟨q7, 0, none⟩), .pointer (some ⟨q3, 0, none⟩), .pointer (some ⟨q6, 0, none⟩)] (.panicking ({ v := .iface 192 (.agg #[]), recovered := false } :: older)) w fun e u' w' =>
   e = .returned (.tuple #[]) /\ u' = .panicking ({ v := .iface 192 (.agg #[]), recovered := true } :: older) /\ Row w' q6 28 #[.int .i64 140] /\ Row w' g 146 (rdC A n c true true) /\ Same (fun k => k < w.heap.size /\ k ≠ g /\ k ≠ q6) w w' := by
 refine callsD_of_wpS Tryz.func126 rfl fun c₀ cs hu => ?_
 have H7 := Lib.hid (h7.alloc (.cells #[] 192))
 have H3 := Lib.hid (h3.alloc (.cells #[] 192))
 have H6 := Lib.hid (h6.alloc (.cells #[] 192))
 have HR := Lib.hid (hr.alloc (.cells #[] 192))
 have HA := Lib.hid (Same.alloc w (.cells #[] 192))
 clear h7 h3 h6 hr
 apply wpS_seq
 apply wpS_region
 simp [wpOpsS, go_sem, recoverD, hu, Tryz.ntmps126, Exit.thenS]
 refine wpS_of_wp ?_
 have hta : ∀ w : World, (Instr.typeAssert (.iface 192 (.agg #[])) 20 192 true).run Tryz.prog w = .ok (.tuple #[.agg #[], .bool true]) w := fun w => by kernel_rfl
 change Code.wp _ _ _ { tmps := #[.pointer (some ⟨q7, 0, none⟩), .pointer (some ⟨q3, 0, none⟩), .pointer (some ⟨q6, 0, none⟩), undef, undef, undef, .iface 192 (.agg #[]), undef, undef, undef, undef, undef, undef, undef, undef, undef, undef, undef, undef], defers := [] } w
 go_upto_region 7 with fail
 have k7 := H7.out
 have k3 := H3.out
 have k6 := H6.out
 have kg := HR.out
 have hs1 := HA.out
 clear H7 H3 H6 HR HA hta
 generalize w.alloc (.cells #[] 192) = w1 at *
 have h3c : w1.cell? ⟨q3, 0, none⟩ = some (.pointer (some ⟨g, 0, none⟩)) := (k3.cell 0).trans rfl
 obtain ⟨w2, hst2, kg2, hg2⟩ := put_rest (A := A) (n := n) (c := c) kg
 have k62 := k6.grown hg2 (fun e => h6g (Option.some.inj e))
 have c2 : w2.cell? ⟨g, 2, none⟩ = some (.bool b) := (kg2.cell 2).trans rfl
 have f2 : w2.frozen? ⟨g, 2, none⟩ = false := kg2.frozen 2
 have kg3 : Row (w2.setCell ⟨g, 2, none⟩ (.bool true)) g 146 (rdC A n c true true) := kg2.set 2 _
 have k63 := k62.far (p := ⟨g, 2, none⟩) h6g (.bool true)
 have hs3 : Same (fun k => k < w.heap.size /\ k ≠ g /\ k ≠ q6) w (w2.setCell ⟨g, 2, none⟩ (.bool true)) :=
  ((hs1.mono (fun k h => h.1)).trans ((Same.of_grown hg2).mono (fun k h => ⟨Nat.lt_of_lt_of_le h.1 hs1.size, fun e => h.2.1 (Option.some.inj e)⟩))).trans ((Same.set w2 ⟨g, 2, none⟩ (.bool true)).mono (fun k h => h.2.1))
 have c6 : (w2.setCell ⟨g, 2, none⟩ (.bool true)).cell? ⟨q6, 0, none⟩ = some (.int .i64 x) := (k63.cell 0).trans rfl
 have f6 : (w2.setCell ⟨g, 2, none⟩ (.bool true)).frozen? ⟨q6, 0, none⟩ = false := k63.frozen 0
 have k64 := k63.set 0 (.int .i64 140)
 have kg4 := kg3.far (p := ⟨q6, 0, none⟩) (fun e => h6g e.symm) (.int .i64 140)
 have hs4 := hs3.trans ((Same.set (w2.setCell ⟨g, 2, none⟩ (.bool true)) ⟨q6, 0, none⟩ (.int .i64 140)).mono (fun k h => h.2.2))
 have K := Lib.hid (And.intro k64 (And.intro kg4 hs4))
 clear k64 kg4 hs4 k63 kg3 hs3 k62 hs1
 go_wp2_with (first
  | (refine wpList_load rfl 144 (.tmp 0) rfl (.pointer (some ⟨q7, 0, none⟩)) rfl (run_load_row k7 Tryz.underlying144 rfl infoRest) ?_)
  | (refine wpList_store rfl 144 (.tmp 16) (.tmp 14) rfl (.pointer (some ⟨g, 0, none⟩)) (.agg #[.slice A n c]) rfl rfl hst2 ?_)
  | fail)
 exact ⟨rfl, _, rfl, _, results_none rfl _ _ _, rfl, rfl, K.out.1, K.out.2.1, K.out.2.2⟩
theorem catch_idle (c3 c6 c7 : Value) (w : World) :
  CallsD Tryz.prog 126 #[c7, c3, c6] .returning w fun e u' w' => e = .returned (.tuple #[]) /\ u' = .returning /\ w' = w := by
 refine callsD_of_wpS Tryz.func126 rfl fun c₀ cs hu => ?_
 apply wpS_seq
 apply wpS_region
 simp [wpOpsS, go_sem, recoverD, hu, Tryz.ntmps126, Exit.thenS]
 refine wpS_of_wp ?_
 change Code.wp _ _ _ { tmps := #[c7, c3, c6, undef, undef, undef, .nilIface, undef, undef, undef, undef, undef, undef, undef, undef, undef, undef, undef, undef], defers := [] } w
 go_wp2
 trace_state
 exact ⟨rfl, _, by rw [<- hu], _, results_none rfl _ _ _, rfl, rfl, rfl⟩
theorem try_any (g : Nat) (A : Option Addr) (n c : Nat) (bad : Bool) (ahead : Int) (F : FuncId) (caps : Array Value) (w : World) (hr : Row w g 146 (rdC A n c true bad)) (p : Nat -> Prop) (hp : ∀ k, p k -> k < w.heap.size /\ k ≠ g) (hen : ∀ w, (callFunc F caps).run Tryz.prog w = .ok (.enter F caps) w) (N : World -> Prop) (hNN : ∀ W W', N W -> Same (fun k => k < w.heap.size /\ k ≠ g) W W' -> N W') (T : World -> Prop) (hT : ∀ W W', T W -> Same (fun k => k < w.heap.size) W W' -> T W')
  (hcl : bad = false -> ahead = 0 -> ∀ W, Below w.heap.size w W -> Calls Tryz.prog F caps W fun e W' => Same (fun k => p k \/ (w.heap.size <= k /\ k < W.heap.size)) W W' /\ ((e = .returned (.tuple #[]) /\ T W') \/ (e = .panicked lacksP /\ N W' /\ ∃ D n' c', Row W' g 146 (rdC D n' c' true false)))) :
  Calls Tryz.prog 81 #[.pointer (some ⟨g, 0, none⟩), .int .i64 ahead, .func (Fn.func F) #[] caps] w fun e W' => Same p w W' /\ ((bad = true /\ e = .returned (.int .i64 140) /\ Below w.heap.size w W') \/ (bad = false /\ ahead ≠ 0 /\ e = .returned (.int .i64 ahead) /\ Below w.heap.size w W') \/ (bad = false /\ ahead = 0 /\ ((e = .returned (.int .i64 0) /\ T W') \/ (N W' /\ e = .returned (.int .i64 140) /\ Row W' g 146 (rdC A n c true true))))) := by
 have hmf : ∀ (fn : Fn) (first cap : Array Value) (w : World), (Instr.makeFunc fn first cap).run Tryz.prog w = .ok (.func fn first cap) w := fun _ _ _ _ => rfl
 have k3 := (Row.new w 80 #[.pointer (some ⟨g, 0, none⟩)]).alloc (.cells #[.int .i64 0] 28)
 have k6 := Row.new (w.alloc (.cells #[.pointer (some ⟨g, 0, none⟩)] 80)) 28 #[.int .i64 0]
 have kg := (hr.alloc (.cells #[.pointer (some ⟨g, 0, none⟩)] 80)).alloc (.cells #[.int .i64 0] 28)
 have hb := below_new2 w (.cells #[.pointer (some ⟨g, 0, none⟩)] 80) (.cells #[.int .i64 0] 28)
 have hgl := hr.lt
 have HP := Lib.hid hp
 have HT := Lib.hid hT
 have HNN := Lib.hid hNN
 have HCL := Lib.hid hcl
 clear hr hp hT hNN hcl
 go_enter_defers Tryz.func81, Tryz.ntmps81
 go_upto_region 1 with fail
 rw [World.size_alloc] at k6
 obtain ⟨q3, hq3⟩ : ∃ q, q = w.heap.size := ⟨_, rfl⟩
 rw [<- hq3] at k3 k6 ⊢
 have HQ := Lib.hid hq3
 clear hq3
 generalize (w.alloc (.cells #[.pointer (some ⟨g, 0, none⟩)] 80)).alloc (.cells #[.int .i64 0] 28) = w1 at *
 have h3c : w1.cell? ⟨q3, 0, none⟩ = some (.pointer (some ⟨g, 0, none⟩)) := (k3.cell 0).trans rfl
 have h6c : w1.cell? ⟨q3 + 1, 0, none⟩ = some (.int .i64 0) := (k6.cell 0).trans rfl
 have h6f : w1.frozen? ⟨q3 + 1, 0, none⟩ = false := k6.frozen 0
 have hgc : w1.cell? ⟨g, 2, none⟩ = some (.bool bad) := (kg.cell 2).trans rfl
 cases bad with
 | true =>
  go_wp2_with (first
   | (go_at_call 125; refine (rnone_yes g A n c true true _ kg).mono ?_; rintro e w2 ⟨rfl, rfl⟩)
   | fail)
  have k6' := k6.set 0 (.int .i64 140)
  have hcv : (w2.setCell ⟨q3 + 1, 0, none⟩ (.int .i64 140)).cell? ⟨q3 + 1, 0, none⟩ = some (.int .i64 140) := (k6'.cell 0).trans rfl
  have hb2 : Below w.heap.size w (w2.setCell ⟨q3 + 1, 0, none⟩ (.int .i64 140)) := hb.setCell (by have := HQ.out; show w.heap.size <= q3 + 1; omega) _
  exact ⟨_, by simp [results, Tryz.results81, go_sem, hcv], (Same.of_below hb2).mono (fun k h => (HP.out k h).1), rfl, hb2⟩
 | false =>
  by_cases h0 : ahead = 0
  ·subst h0
   have hld := run_load_part (P := Tryz.prog) (T := 144) (o := 0) (vs := #[.slice A n c]) kg (fun j hj => by rcases j with _ | j; exact rfl; simp at hj) Tryz.underlying144 rfl infoRest
   go_upto_region 8 with (first
    | (go_at_call 125; refine (rnone_yes g A n c true false _ kg).mono ?_; rintro e w2 ⟨rfl, rfl⟩)
    | (refine wpList_load rfl 144 (.tmp 22) rfl (.pointer (some ⟨g, 0, none⟩)) rfl hld ?_)
    | fail)
   have k7 := Row.new w2 144 #[.slice A n c]
   have k3 := k3.alloc (.cells #[.slice A n c] 144)
   have k6 := k6.alloc (.cells #[.slice A n c] 144)
   have kg := kg.alloc (.cells #[.slice A n c] 144)
   have hb3 := hb.alloc hb.size (.cells #[.slice A n c] 144)
   obtain ⟨q7, hq7⟩ : ∃ q, q = w2.heap.size := ⟨_, rfl⟩
   have h37 : q3 < q7 := by rw [hq7]; have := k6.lt; have := hb.size; have := HQ.out; exact Nat.lt_of_lt_of_le (Nat.lt_succ_self q3) (Nat.le_of_lt_succ (by simp only [World.size_alloc] at *; omega))
   rw [<- hq7] at k7 ⊢
   clear hq7 h3c h6c h6f hgc hld hb
   generalize w2.alloc (.cells #[.slice A n c] 144) = w3 at *
   have hcl := HCL.out trivial trivial w3 hb3
   go_upto_region 9 with fail
   go_wp2_with fail
   refine hcl.mono ?_
   clear hcl
   have hq6 : w.heap.size <= q3 + 1 /\ q3 + 1 < w3.heap.size := ⟨by have := HQ.out; omega, k6.lt⟩
   have hq3l : w.heap.size <= q3 /\ q3 < w3.heap.size := ⟨by have := HQ.out; omega, k3.lt⟩
   have hq7l : w.heap.size <= q7 /\ q7 < w3.heap.size := ⟨by have := HQ.out; omega, k7.lt⟩
   rintro e w4 ⟨hs4, ⟨rfl, hT4⟩ | ⟨rfl, hN, D, n', c', kg4⟩⟩
   ·have k64 := k6.same hs4 (.inr hq6)
    have h6c : w4.cell? ⟨q3 + 1, 0, none⟩ = some (.int .i64 0) := (k64.cell 0).trans rfl
    have h6f : w4.frozen? ⟨q3 + 1, 0, none⟩ = false := k64.frozen 0
    go_wp2_with fail
    refine leaves_cons (f := 126) (args := #[.pointer (some ⟨q7, 0, none⟩), .pointer (some ⟨q3, 0, none⟩), .pointer (some ⟨q3 + 1, 0, none⟩)]) (by simp) (by simp [go_sem]) ?_
    refine (catch_idle _ _ _ _).mono ?_
    rintro e u' w'' ⟨rfl, rfl, rfl⟩
    have k65 := k64.set 0 (.int .i64 0)
    have hcv : (w4.setCell ⟨q3 + 1, 0, none⟩ (.int .i64 0)).cell? ⟨q3 + 1, 0, none⟩ = some (.int .i64 0) := (k65.cell 0).trans rfl
    have hst : Same (fun k => k < w.heap.size) w4 (w4.setCell ⟨q3 + 1, 0, none⟩ (.int .i64 0)) := (Same.set w4 ⟨q3 + 1, 0, none⟩ (.int .i64 0)).mono (fun k h => by show k ≠ q3 + 1; omega)
    show ∃ v, _ /\ _
    refine ⟨.int .i64 0, by simp [results, Tryz.results81, go_sem, hcv], ?_, .inl ⟨rfl, HT.out _ _ hT4 hst⟩⟩
    exact (((Same.of_below hb3).mono (fun k h => (HP.out k h).1)).trans (hs4.mono (fun k h => .inl h))).trans (hst.mono (fun k h => (HP.out k h).1))
   ·go_wp2_with fail
    refine leaves_cons (f := 126) (args := #[.pointer (some ⟨q7, 0, none⟩), .pointer (some ⟨q3, 0, none⟩), .pointer (some ⟨q3 + 1, 0, none⟩)]) (by simp) (by simp [go_sem]) ?_
    refine (catch_panicking q3 (q3 + 1) q7 g 80 A n c [] w4 0 D n' c' false (k7.same hs4 (.inr hq7l)) (k3.same hs4 (.inr hq3l)) (k6.same hs4 (.inr hq6)) kg4 (by omega)).mono ?_
    rintro e u' w'' ⟨rfl, rfl, k6', kg', hs'⟩
    have hcv : w''.cell? ⟨q3 + 1, 0, none⟩ = some (.int .i64 140) := (k6'.cell 0).trans rfl
    show ∃ v, _ /\ _
    refine ⟨.int .i64 140, by simp [results, Tryz.results81, go_sem, hcv], ?_, .inr ⟨HNN.out _ _ hN (hs'.mono (fun k h => ⟨by have := hs4.size; have := hb3.size; omega, h.2, by have := h.1; omega⟩)), rfl, kg'⟩⟩
    exact (((Same.of_below hb3).mono (fun k h => (HP.out k h).1)).trans (hs4.mono (fun k h => .inl h))).trans (hs'.mono (fun k h => ⟨by have := (HP.out k h).1; have := hs4.size; have := hb3.size; omega, (HP.out k h).2, by have := (HP.out k h).1; omega⟩))
  ·have hd : decide (ahead = 0) = false := decide_eq_false h0
   go_wp2_with (first
    | (go_at_call 125; refine (rnone_yes g A n c true false _ kg).mono ?_; rintro e w2 ⟨rfl, rfl⟩)
    | fail)
   have k6' := k6.set 0 (.int .i64 ahead)
   have hcv : (w2.setCell ⟨q3 + 1, 0, none⟩ (.int .i64 ahead)).cell? ⟨q3 + 1, 0, none⟩ = some (.int .i64 ahead) := (k6'.cell 0).trans rfl
   have hb2 : Below w.heap.size w (w2.setCell ⟨q3 + 1, 0, none⟩ (.int .i64 ahead)) := hb.setCell (by have := HQ.out; show w.heap.size <= q3 + 1; omega) _
   exact ⟨_, by simp [results, Tryz.results81, go_sem, hcv], (Same.of_below hb2).mono (fun k h => (HP.out k h).1), rfl, hb2⟩
end Go.Proofs.YtloiaaolnfimgaaGreat
namespace Go.Proofs.YtloiaaolnfimgaaGreat.Wr
open Go.RowKit
def val (l : List UInt8) : Nat := l.foldl (fun a c => 256 * a + c.toNat) 0
theorem val_snoc (l : List UInt8) (c : UInt8) : val (l ++ [c]) = 256 * val l + c.toNat := by simp [val]
theorem fold_lt : ∀ (l : List UInt8) (a : Nat), l.foldl (fun a c => 256 * a + c.toNat) a < (a + 1) * 256 ^ l.length
 | [], a => by simp
 | c :: l, a => by
  have h := fold_lt l (256 * a + c.toNat)
  have hc := c.toNat_lt
  have h2 : (256 * a + c.toNat + 1) * 256 ^ l.length <= (256 * (a + 1)) * 256 ^ l.length := Nat.mul_le_mul_right _ (by omega)
  have h3 : (256 * (a + 1)) * 256 ^ l.length = (a + 1) * 256 ^ (l.length + 1) := by rw [Nat.pow_succ]; rw [Nat.mul_comm 256 (a + 1), Nat.mul_assoc, Nat.mul_comm 256]
  simp only [List.foldl_cons, List.length_cons]
  omega
theorem val_lt (l : List UInt8) : val l < 256 ^ l.length := by simpa [val] using fold_lt l 0
theorem fold_ge : ∀ (l : List UInt8) (a : Nat), a * 256 ^ l.length <= l.foldl (fun a c => 256 * a + c.toNat) a
 | [], a => by simp
 | c :: l, a => by
  have h := fold_ge l (256 * a + c.toNat)
  have h2 : (256 * a) * 256 ^ l.length <= (256 * a + c.toNat) * 256 ^ l.length := Nat.mul_le_mul_right _ (by omega)
  have h3 : (256 * a) * 256 ^ l.length = a * 256 ^ (l.length + 1) := by rw [Nat.pow_succ, Nat.mul_comm 256 a, Nat.mul_assoc, Nat.mul_comm 256]
  simp only [List.foldl_cons, List.length_cons]
  omega
theorem val_more (l : List UInt8) (i m : Nat) (h : i < m) (hm : m <= l.length) : 256 * val (l.take i) <= val (l.take m) := by
 have e : l.take m = l.take i ++ (l.take m).drop i := by
  have := List.take_append_drop i (l.take m)
  rw [List.take_take, Nat.min_eq_left (by omega)] at this
  exact this.symm
 have hl : ((l.take m).drop i).length = m - i := by simp; omega
 have h1 := fold_ge ((l.take m).drop i) (val (l.take i))
 rw [hl] at h1
 have h2 : val (l.take m) = ((l.take m).drop i).foldl (fun a c => 256 * a + c.toNat) (val (l.take i)) := by
  unfold val
  rw [<- List.foldl_append, <- e]
 rw [h2]
 have h3 : 256 ^ 1 <= 256 ^ (m - i) := Nat.pow_le_pow_right (by decide) (by omega)
 have h4 : val (l.take i) * 256 <= val (l.take i) * 256 ^ (m - i) := Nat.mul_le_mul_left _ h3
 omega
def at_ (n k i : Nat) : UInt8 := UInt8.ofNat (n / 2 ^ (8 * (k - 1 - i)))
def be (k n : Nat) : List UInt8 := (List.range k).map (at_ n k)
theorem be_len (k n : Nat) : (be k n).length = k := by simp [be]
theorem be_take (k n i : Nat) (h : i < k) : (be k n).take (i + 1) = (be k n).take i ++ [at_ n k i] := by
 rw [List.take_succ_eq_append_getElem (by rw [be_len]; exact h)]
 simp [be]
def bytes (n : Nat) : List UInt8 := if n < 253 then [UInt8.ofNat n] else if n < 65536 then 253 :: be 2 n else if n < 4294967296 then 254 :: be 4 n else 255 :: be 8 n
theorem bytes_len (n : Nat) : (bytes n).length = if n < 253 then 1 else if n < 65536 then 3 else if n < 4294967296 then 5 else 9 := by
 unfold bytes
 split
 ·rfl
 ·split
  ·simp [be_len]
  ·split <;> simp [be_len]
theorem bytes_le (n : Nat) : (bytes n).length <= 9 := by rw [bytes_len]; split <;> (try split) <;> (try split) <;> omega
def many (c : UInt8) : Nat := if c = 253 then 2 else if c = 254 then 4 else if c = 255 then 8 else 0
def first : List UInt8 -> Nat × Int
 | [] => (0, 0)
 | c :: r => if many c = 0 then (c.toNat, 1) else if r.length < many c then (0, 0) else
  if 4611686018427387904 < val (r.take (many c)) \/ (bytes (val (r.take (many c)))).length ≠ 1 + many c then (0, -1) else (val (r.take (many c)), 1 + (many c : Int))
end Go.Proofs.YtloiaaolnfimgaaGreat.Wr
namespace Go.Proofs.YtloiaaolnfimgaaGreat
open Go.RowKit
def Grew (w w' : World) (v v' : Value) : Prop := w.grownBy w' v.ownBlock /\ ∀ k, v'.ownBlock = some k -> v.ownBlock = some k \/ w.heap.size <= k
theorem Grew.refl (w : World) (v : Value) : Grew w w v v := ⟨grown_refl _ _, fun k h => .inl h⟩
theorem Grew.trans {w w1 w2 : World} {v v1 v2 : Value} (h : Grew w w1 v v1) (k : Grew w1 w2 v1 v2) : Grew w w2 v v2 := by
 refine ⟨⟨k.1.os.trans h.1.os, k.1.tape.trans h.1.tape, k.1.output.trans h.1.output, Nat.le_trans h.1.size k.1.size, fun i hi hn => ?_⟩, fun i hi => ?_⟩
 ·refine (k.1.block i (Nat.lt_of_lt_of_le hi h.1.size) (fun e => ?_)).trans (h.1.block i hi hn)
  rcases h.2 i e.symm with e2 | e2
  ·exact hn e2.symm
  ·omega
 ·rcases k.2 i hi with e | e
  ·exact h.2 i e
  ·exact .inr (Nat.le_trans h.1.size e)
theorem Grew.alloc {w w' : World} {o : Obj} {v v' : Value} (hg : (w.alloc o).grownBy w' v.ownBlock) (hat : v'.ownBlock = v.ownBlock \/ v'.ownBlock = some (w.alloc o).heap.size) : Grew w w' v v' := by
 refine ⟨⟨hg.os, hg.tape, hg.output, by have := hg.size; simp only [World.size_alloc] at this; omega, fun k hk hn => (hg.block k (by simp only [World.size_alloc]; omega) hn).trans (Below.heap_alloc w o k hk)⟩, fun k hk => ?_⟩
 rcases hat with e | e
 ·exact .inl (e ▸ hk)
 ·rw [e] at hk
  injection hk with hk
  exact .inr (by simp only [World.size_alloc] at hk; omega)
theorem high_any (v : Value) (l : List UInt8) (n k : Nat) (base : Nat) (w : World) (hk : k <= 8) (hn : n < 9223372036854775808) (hl : l.length <= 1000000000) (hb : base <= w.heap.size) (ho : Own 5 w base v l) :
  Calls Tryz.prog 138 #[v, .int .i64 (n : Int), .int .i64 (k : Int)] w fun e w' => ∃ v', e = .returned v' /\ Own 5 w' base v' (l ++ Wr.be k n) /\ Grew w w' v v' := by
 go_enter Tryz.func138, Tryz.ntmps138
 go_wp2_with fail
 go_loopw [0, 9] (fun u0 t wr => ∃ i : Nat, i <= k /\ t = .int .i64 (i : Int) /\ Own 5 wr base u0 (l ++ (Wr.be k n).take i) /\ Grew w wr v u0) (fun u0 t _ => k - (intOf t).toNat)
 case atStart => exact ⟨0, by omega, rfl, by simpa using ho, Grew.refl _ _⟩
 case round =>
  obtain ⟨i, hi, rfl, hown, hgr⟩ := hrel
  by_cases hlt : i < k
  ·have hd : decide ((i : Int) < (k : Int)) = true := decide_eq_true (by omega)
   have hbw : base <= wr.heap.size := Nat.le_trans hb hgr.1.size
   have hbyte : (n : Int) / 2 ^ (8 * (k - 1 - i)) % 256 = ((Wr.at_ n k i).toNat : Int) := by
    unfold Wr.at_
    rw [UInt8.toNat_ofNat']
    simp
   have hll : (l ++ (Wr.be k n).take i).length <= 1000000008 := by rw [List.length_append, List.length_take, Wr.be_len]; omega
   have hnx : l ++ (Wr.be k n).take (i + 1) = (l ++ (Wr.be k n).take i) ++ [Wr.at_ n k i] := by rw [Wr.be_take k n i hlt, List.append_assoc]
   have HNX := Lib.hid hnx
   clear hnx
   go_wp2_with (first
    | (at_builtin; refine wpList_append_bytes rfl (.tmp 12) (.tmp 21) 60 rfl base 5 Tryz.underlying60 byteInfo _ _ rfl (hown.alloc _) (some ⟨wr.heap.size, 0, none⟩) 1 1 [Wr.at_ n k i] rfl rfl (Rd.byte1 hbyte) (by omega) (by simp only [World.size_alloc]; omega) ?_; intro v' w' hown' hg' hat')
    | fail)
   go_roundw
   case rel => exact ⟨i + 1, by omega, by go_num, by rw [HNX.out]; exact hown', hgr.trans (Grew.alloc hg' hat')⟩
   case measure => simp [intOf]; omega
  ·obtain rfl : i = k := by omega
   have hd : decide ((i : Int) < (i : Int)) = false := decide_eq_false (by omega)
   rw [List.take_of_length_le (by rw [Wr.be_len]; exact Nat.le_refl _)] at hown
   go_wp2_with fail
   go_ret
   exact ⟨_, rfl, hown, hgr⟩
def Wr.nb (n : Int) : List UInt8 := if n < 253 then [UInt8.ofNat (n % 256).toNat] else Wr.bytes n.toNat
theorem Wr.nb_nat (n : Nat) : Wr.nb (n : Int) = Wr.bytes n := by
 unfold Wr.nb
 split
 ·next h =>
  rw [Wr.bytes, if_pos (by omega), show ((n : Int) % 256).toNat = n by omega]
 ·rfl
theorem Wr.nb_le (n : Int) : (Wr.nb n).length <= 9 := by
 unfold Wr.nb
 split
 ·simp
 ·exact Wr.bytes_le _
theorem wnumber_any (v : Value) (l : List UInt8) (n : Int) (base : Nat) (w : World) (hn : n < 9223372036854775808) (hl : l.length <= 900000000) (hb : base <= w.heap.size) (ho : Own 5 w base v l) :
  Calls Tryz.prog 106 #[v, .int .i64 n] w fun e w' => ∃ v', e = .returned v' /\ Own 5 w' base v' (l ++ Wr.nb n) /\ Grew w w' v v' := by
 by_cases h1 : n < 253
 ·have hd : decide (n < 253) = true := decide_eq_true h1
  have hnb : Wr.nb n = [UInt8.ofNat (n % 256).toNat] := if_pos h1
  rw [hnb]
  clear hnb
  go_enter Tryz.func106, Tryz.ntmps106
  go_wp2_with (first
   | (at_builtin; refine wpList_append_bytes rfl (.tmp 8) (.tmp 11) 60 rfl base 5 Tryz.underlying60 byteInfo v l rfl (ho.alloc _) (some ⟨w.heap.size, 0, none⟩) 1 1 [UInt8.ofNat (n % 256).toNat] rfl rfl (Rd.byteZ (by omega) (by omega)) (by omega) (by simp only [World.size_alloc]; omega) ?_; intro v' w' hown' hg' hat')
   | fail)
  go_ret
  exact ⟨_, rfl, hown', Grew.alloc hg' hat'⟩
 ·obtain ⟨m, rfl⟩ : ∃ m : Nat, n = m := ⟨n.toNat, by omega⟩
  have hd : decide ((m : Int) < 253) = false := decide_eq_false h1
  rw [Wr.nb_nat]
  by_cases h2 : m < 65536
  ·have hd2 : decide ((m : Int) < 65536) = true := decide_eq_true (by omega)
   have hbs : l ++ Wr.bytes m = (l ++ [253]) ++ Wr.be 2 m := by rw [Wr.bytes, if_neg (by omega), if_pos (by omega), List.append_assoc]; rfl
   have HBS := Lib.hid hbs
   clear hbs
   go_enter Tryz.func106, Tryz.ntmps106
   go_wp2_with (first
    | (at_builtin; refine wpList_append_bytes rfl (.tmp 16) (.tmp 17) 60 rfl base 5 Tryz.underlying60 byteInfo v l rfl (ho.alloc _) (some ⟨w.heap.size, 0, none⟩) 1 1 [253] rfl rfl (Rd.byte1 rfl) (by omega) (by simp only [World.size_alloc]; omega) ?_; intro v1 w1 hown1 hg1 hat1)
    | (go_at_call 138; refine (high_any v1 (l ++ [253]) m 2 base w1 (by decide) (by omega) (by simp; omega) (Nat.le_trans hb (by have := hg1.size; simp only [World.size_alloc] at this; omega)) hown1).mono ?_; rintro e w2 ⟨v2, rfl, hown2, hgr2⟩)
    | fail)
   go_ret
   exact ⟨_, rfl, by rw [HBS.out]; exact hown2, (Grew.alloc hg1 hat1).trans hgr2⟩
  have hd2 : decide ((m : Int) < 65536) = false := decide_eq_false (by omega)
  by_cases h4 : m < 4294967296
  ·have hd4 : decide ((m : Int) < 4294967296) = true := decide_eq_true (by omega)
   have hbs : l ++ Wr.bytes m = (l ++ [254]) ++ Wr.be 4 m := by rw [Wr.bytes, if_neg (by omega), if_neg (by omega), if_pos (by omega), List.append_assoc]; rfl
   have HBS := Lib.hid hbs
   clear hbs
   go_enter Tryz.func106, Tryz.ntmps106
   go_wp2_with (first
    | (at_builtin; refine wpList_append_bytes rfl (.tmp 24) (.tmp 25) 60 rfl base 5 Tryz.underlying60 byteInfo v l rfl (ho.alloc _) (some ⟨w.heap.size, 0, none⟩) 1 1 [254] rfl rfl (Rd.byte1 rfl) (by omega) (by simp only [World.size_alloc]; omega) ?_; intro v1 w1 hown1 hg1 hat1)
    | (go_at_call 138; refine (high_any v1 (l ++ [254]) m 4 base w1 (by decide) (by omega) (by simp; omega) (Nat.le_trans hb (by have := hg1.size; simp only [World.size_alloc] at this; omega)) hown1).mono ?_; rintro e w2 ⟨v2, rfl, hown2, hgr2⟩)
    | fail)
   go_ret
   exact ⟨_, rfl, by rw [HBS.out]; exact hown2, (Grew.alloc hg1 hat1).trans hgr2⟩
  have hd4 : decide ((m : Int) < 4294967296) = false := decide_eq_false (by omega)
  have hbs : l ++ Wr.bytes m = (l ++ [255]) ++ Wr.be 8 m := by rw [Wr.bytes, if_neg (by omega), if_neg (by omega), if_neg (by omega), List.append_assoc]; rfl
  have HBS := Lib.hid hbs
  clear hbs
  go_enter Tryz.func106, Tryz.ntmps106
  go_wp2_with (first
   | (at_builtin; refine wpList_append_bytes rfl (.tmp 29) (.tmp 30) 60 rfl base 5 Tryz.underlying60 byteInfo v l rfl (ho.alloc _) (some ⟨w.heap.size, 0, none⟩) 1 1 [255] rfl rfl (Rd.byte1 rfl) (by omega) (by simp only [World.size_alloc]; omega) ?_; intro v1 w1 hown1 hg1 hat1)
   | (go_at_call 138; refine (high_any v1 (l ++ [255]) m 8 base w1 (by decide) (by omega) (by simp; omega) (Nat.le_trans hb (by have := hg1.size; simp only [World.size_alloc] at this; omega)) hown1).mono ?_; rintro e w2 ⟨v2, rfl, hown2, hgr2⟩)
   | fail)
  go_ret
  exact ⟨_, rfl, by rw [HBS.out]; exact hown2, (Grew.alloc hg1 hat1).trans hgr2⟩
end Go.Proofs.YtloiaaolnfimgaaGreat
namespace Go.Proofs.YtloiaaolnfimgaaGreat
open Go.RowKit Go.Maps
theorem wpList_insert_own {H : Type} {P : Program} (w : World) {ops : Array Oper} {rest : List Oper} {o : Oper} {a : Act} {Q : Exit -> Act -> World -> Prop}
  (hg : o.guard = none) (m x v : Operand) (t : TypeId) (hop : o.op = Op.insert t m x v)
  (k e : TypeId) (K : Keyed P k) (ht : P.underlying t = some (.map k e)) (R : Value -> Option (DataW H × List MemPlace)) (b n : Nat) (D : DataW H)
  (hm : a.eval m = .map (some b)) (hown : w.ownsMap P k R b n D) (hn : n < maxLen) (key val : Value) (kl : Lit) (hx : a.eval x = key) (hv : a.eval v = val) (hkey : keyOf P k key = some kl)
  (d : DataW H) (ps : List MemPlace) (hval : R val = some (d, ps))
  (hK : ∀ w', w'.ownsMap P k R b (n + 1) (D.put kl d) -> w.grownBy w' (some b) -> wpList P ops Q rest (a.put o.dst undef) w') :
  wpList P ops Q (o :: rest) a w := by
 refine wpList_plain hg fun K' hK' => ?_
 obtain ⟨w', hrun, r1, r2⟩ := hown.update K ht hn hkey hval
 unfold Oper.wp
 simp [execOp, hop, hm, hx, hv, hrun, Result.andThen]
 exact hK' _ _ (hK w' r1 r2)
def manyD : DataW Unit := (((DataW.map []).put (.int .u8 253) (.lit (.int .i64 2))).put (.int .u8 254) (.lit (.int .i64 4))).put (.int .u8 255) (.lit (.int .i64 8))
theorem manyD_at (c : UInt8) : manyD.atKey (.int .u8 (c.toNat : Int)) (.lit (.int .i64 0)) = .lit (.int .i64 (Wr.many c : Int)) := by
 have e : manyD = DataW.map [(.int .u8 253, .lit (.int .i64 2)), (.int .u8 254, .lit (.int .i64 4)), (.int .u8 255, .lit (.int .i64 8))] := by kernel_rfl
 rw [e]
 unfold Wr.many
 by_cases h1 : c = 253
 ·subst h1; rfl
 ·by_cases h2 : c = 254
  ·subst h2; rfl
  ·by_cases h3 : c = 255
   ·subst h3; rfl
   ·rw [if_neg h1, if_neg h2, if_neg h3]
    have n1 : c.toNat ≠ 253 := fun e => h1 (UInt8.toNat_inj.1 e)
    have n2 : c.toNat ≠ 254 := fun e => h2 (UInt8.toNat_inj.1 e)
    have n3 : c.toNat ≠ 255 := fun e => h3 (UInt8.toNat_inj.1 e)
    have i1 : ¬ (253 : Int) = (c.toNat : Int) := by omega
    have i2 : ¬ (254 : Int) = (c.toNat : Int) := by omega
    have i3 : ¬ (255 : Int) = (c.toNat : Int) := by omega
    simp [DataW.atKey, Lit.sameKey, List.find?, i1, i2, i3]
theorem zeroInt (w : World) : (zeroValue 3).run Tryz.prog w = .ok (.int .i64 0) w := by kernel_rfl
theorem or_byte (V : Nat) (c : UInt8) (hV : V < 36028797018963968) : bits .or .i64 (wrap64 ((V : Int) * 256)) (c.toNat : Int) = ((256 * V + c.toNat : Nat) : Int) := by
 have hc := c.toNat_lt
 have hw : wrap64 ((V : Int) * 256) = ((V * 256 : Nat) : Int) := by
  unfold wrap64
  omega
 rw [hw]
 show IntKind.i64.wrap ((BitVec.ofInt 64 ((V * 256 : Nat) : Int) ||| BitVec.ofInt 64 ((c.toNat : Nat) : Int)).toNat : Int) = _
 rw [BitVec.toNat_or, ofInt_u64 _ (by omega), ofInt_u64 _ (by omega), nat_join8 (V * 256) c.toNat (by omega) (by omega), show V * 256 + c.toNat = 256 * V + c.toNat by omega]
 exact Lib.wrap_i64_small _ (by omega)
theorem or_byte_neg (c : Nat) (hc : c < 256) : bits .or .i64 (wrap64 (36028797018963968 * 256)) (c : Int) < 0 /\ -9223372036854775808 <= bits .or .i64 (wrap64 (36028797018963968 * 256)) (c : Int) := by
 have h : ∀ c, c < 256 -> bits .or .i64 (wrap64 (36028797018963968 * 256)) ((c : Nat) : Int) < 0 /\ -9223372036854775808 <= bits .or .i64 (wrap64 (36028797018963968 * 256)) ((c : Nat) : Int) := by decide +kernel
 exact h c hc
theorem maps3 {w w1 w2 w3 : World} (hg1 : (w.alloc (.map #[] 0)).grownBy w1 (some w.heap.size)) (hg2 : w1.grownBy w2 (some w.heap.size)) (hg3 : w2.grownBy w3 (some w.heap.size)) : Below w.heap.size w w3 := by
 have s1 := hg1.size
 have s2 := hg2.size
 simp only [World.size_alloc] at s1
 have h0 := (Below.refl w.heap.size w).alloc (Nat.le_refl _) (.map #[] 0)
 exact ((h0.grown hg1 (by simp) (fun k e => by cases e; exact Nat.le_refl _)).grown hg2 (by omega) (fun k e => by cases e; exact Nat.le_refl _)).grown hg3 (by omega) (fun k e => by cases e; exact Nat.le_refl _)
theorem wfirst_any (A : Option Addr) (n c : Nat) (l : List UInt8) (w : World) (hn : l.length = n) (hc : n <= c) (hcm : c <= 9223372036854775807) (hr : Rd w A l) :
  Calls Tryz.prog 127 #[.slice A n c] w fun e w' => e = .returned (.tuple #[.int .i64 ((Wr.first l).1 : Int), .int .i64 (Wr.first l).2]) /\ Below w.heap.size w w' := by
 rcases l with _ | ⟨x, r⟩
 ·simp at hn
  subst hn
  go_enter Tryz.func127, Tryz.ntmps127
  go_wp2_with fail
  go_ret2
  exact ⟨rfl, Below.refl _ _⟩
 ·have hn0 : 0 < n := by rw [<- hn]; simp
  obtain ⟨b, o, rfl, hc0⟩ := hr.at_ (k := 0) (by simp)
  rw [Nat.add_zero] at hc0
  have hd2 : decide ((0 : Int) < (n : Int)) = true := decide_eq_true (by omega)
  have hd2' : decide (0 < n) = true := decide_eq_true hn0
  have hmm := @run_makeMap Tryz.prog
  have hd : decide ((n : Int) = 0) = false := decide_eq_false (by omega)
  have hd' : decide (n = 0) = false := decide_eq_false (by omega)
  have hm0 := World.ownsMap_made (H := Unit) w Tryz.prog 5 (plainElem Tryz.prog 3)
  have hx := x.toNat_lt
  have hkx : keyOf Tryz.prog 5 (.int .u8 (x.toNat : Int)) = some (.int .u8 (x.toNat : Int)) := keyOf_int_mk Tryz.underlying5 (by simp [Lit.wf, IntKind.min, IntKind.max, IntKind.signed, IntKind.bits]; omega)
  go_enter Tryz.func127, Tryz.ntmps127
  go_upto_region 4 with (first
   | (refine wpList_insert_own _ rfl (.tmp 10) (.const (.int .u8 253)) (.const (.int .i64 2)) 230 rfl 5 3 (int_keyed Tryz.underlying5) Tryz.underlying230 _ w.heap.size 0 _ rfl hm0 (by decide) _ _ _ rfl rfl (keyOf_int_mk Tryz.underlying5 (by decide)) _ [] (plainElem_int Tryz.underlying3 (by decide)) ?_; intro w1 hm1 hg1)
   | (refine wpList_insert_own _ rfl (.tmp 10) (.const (.int .u8 254)) (.const (.int .i64 4)) 230 rfl 5 3 (int_keyed Tryz.underlying5) Tryz.underlying230 _ w.heap.size 1 _ rfl hm1 (by decide) _ _ _ rfl rfl (keyOf_int_mk Tryz.underlying5 (by decide)) _ [] (plainElem_int Tryz.underlying3 (by decide)) ?_; intro w2 hm2 hg2)
   | (refine wpList_insert_own _ rfl (.tmp 10) (.const (.int .u8 255)) (.const (.int .i64 8)) 230 rfl 5 3 (int_keyed Tryz.underlying5) Tryz.underlying230 _ w.heap.size 2 _ rfl hm2 (by decide) _ _ _ rfl rfl (keyOf_int_mk Tryz.underlying5 (by decide)) _ [] (plainElem_int Tryz.underlying3 (by decide)) ?_; intro w3 hm3 hg3; have hL3 : Below w.heap.size w w3 := maps3 hg1 hg2 hg3; have hc3 : w3.cell? ⟨b, o, none⟩ = some (.int .u8 (x.toNat : Int)) := (hL3.cell (p := ⟨b, o, none⟩) (block_lt_of_cell hc0)).trans hc0)
   | (at_lookup; refine wpList_lookup_own_int _ rfl _ _ 230 rfl 5 3 .i64 (int_keyed Tryz.underlying5) Tryz.underlying230 Tryz.underlying3 (zeroInt _) w.heap.size 3 _ rfl hm3 _ _ rfl hkx ?_; intro mc hat hwc)
   | fail)
  have hmany : mc = (Wr.many x : Int) := by
   have e := (manyD_at x).symm.trans hat
   injection e with e
   injection e with _ e
   exact e.symm
  subst hmany
  have hr3 := hr.below hL3
  clear hat hwc hm0 hm1 hm2 hm3 hg1 hg2 hg3 hmm hd hd' hd2 hd2' hkx hc0
  have hM : Wr.many x = 0 \/ Wr.many x = 2 \/ Wr.many x = 4 \/ Wr.many x = 8 := by unfold Wr.many; split; simp; split; simp; split <;> simp
  by_cases hmz : Wr.many x = 0
  ·have hfst : Wr.first (x :: r) = (x.toNat, 1) := by simp [Wr.first, hmz]
   have HF := Lib.hid hfst
   have hd2 : decide ((0 : Int) < (n : Int)) = true := decide_eq_true (by omega)
   have hd2' : decide (0 < n) = true := decide_eq_true hn0
   rw [hmz]
   clear hfst
   go_wp2_with fail
   go_ret2
   exact ⟨by rw [HF.out]; rfl, hL3⟩
  obtain ⟨m, hm⟩ : ∃ q, Wr.many x = q := ⟨_, rfl⟩
  rw [hm] at hM hmz ⊢
  have hm8 : m <= 8 := by omega
  have hd3 : decide ((m : Int) = 0) = false := decide_eq_false (by omega)
  have hd3' : decide (m = 0) = false := decide_eq_false (by omega)
  have HM := Lib.hid hm
  clear hm
  by_cases hlt : n <= m
  ·have hd4 : decide ((n : Int) <= (m : Int)) = true := decide_eq_true (by omega)
   have hd4' : decide (n <= m) = true := decide_eq_true (by omega)
   have hfst : Wr.first (x :: r) = (0, 0) := by
    have hl : r.length < m := by simp at hn; omega
    simp only [Wr.first]
    rw [HM.out, if_neg (by omega), if_pos hl]
   have HF := Lib.hid hfst
   clear hfst
   go_wp2_with fail
   go_ret2
   exact ⟨by rw [HF.out]; rfl, hL3⟩
  ·have hd4 : decide ((n : Int) <= (m : Int)) = false := decide_eq_false (by omega)
   have hd4' : decide (n <= m) = false := decide_eq_false (by omega)
   go_upto_region 9 with fail
   have hrl : m <= r.length := by simp at hn; omega
   have hRd : ∀ i (h : i < m), w3.cell? ⟨b, o + 1 + i, none⟩ = some (.int .u8 ((r[i]'(by omega)).toNat : Int)) := fun i h => by
    obtain ⟨b', o', e', hcc⟩ := hr3 (by simp)
    injection e' with e'
    injection e' with e1 e2
    subst e1 e2
    have := hcc (i + 1) (by simp; omega)
    rw [show o + (i + 1) = o + 1 + i by omega] at this
    exact this
   have hlen1 : 1 + m - 1 = m := by omega
   rw [hlen1]
   have HRD := Lib.hid hRd
   have HR3 := Lib.hid hr3
   have HN := Lib.hid hn
   clear hRd hr3 hlen1 hd3 hd3' hd4 hd4' hn hr
   go_loopw [2, 31] (fun z t wr => ∃ i : Nat, i <= m /\ t = .int .i64 (i : Int) /\ wr = w3 /\ ∃ q : Int, z = .int .i64 q /\ ((q = (Wr.val (r.take i) : Int) /\ q < 9223372036854775808) \/ (i = m /\ q < 0 /\ -9223372036854775808 <= q /\ 9223372036854775808 <= Wr.val (r.take i)))) (fun z t _ => m - (intOf t).toNat)
   case atStart => exact ⟨0, by omega, rfl, rfl, 0, rfl, .inl ⟨rfl, by decide⟩⟩
   case round =>
    obtain ⟨i, hi, rfl, rfl, q, rfl, hq⟩ := hrel
    by_cases hlti : i < m
    ·have hdl : decide ((i : Int) < (m : Int)) = true := decide_eq_true (by omega)
     have hdl' : decide (i < m) = true := decide_eq_true (by omega)
     have hcell := HRD.out i hlti
     obtain ⟨e, hqb⟩ := hq.resolve_right (fun h => by omega)
     have hnx : r.take (i + 1) = r.take i ++ [r[i]'(by omega)] := List.take_succ_eq_append_getElem (by omega)
     have hv1 : Wr.val (r.take (i + 1)) = 256 * Wr.val (r.take i) + (r[i]'(by omega)).toNat := by rw [hnx, Wr.val_snoc]
     have hcc := (r[i]'(by omega : i < r.length)).toNat_lt
     generalize hcx : (r[i]'(by omega : i < r.length)) = cx at *
     generalize hV : Wr.val (r.take i) = V at *
     have hvl : V < 256 ^ 7 := by
      have := Wr.val_lt (r.take i)
      rw [hV, List.length_take, Nat.min_eq_left (by omega)] at this
      exact Nat.lt_of_lt_of_le this (Nat.pow_le_pow_right (by decide) (by omega))
     subst e
     by_cases hbig : 36028797018963968 < V
     ·have hd5 : decide ((36028797018963968 : Int) < (V : Int)) = true := decide_eq_true (by omega)
      have hfst : Wr.first (x :: r) = (0, -1) := by
       have := Wr.val_more r i m hlti hrl
       simp only [Wr.first]
       rw [HM.out, if_neg hmz, if_neg (by omega), if_pos (.inl (by omega))]
      have HF := Lib.hid hfst
      clear hfst
      go_wp2_with fail
      go_ret2
      exact ⟨by rw [HF.out]; rfl, hL3⟩
     ·have hd5 : decide ((36028797018963968 : Int) < (V : Int)) = false := decide_eq_false (by omega)
      have hv2 : V < 256 ^ i := by
       have := Wr.val_lt (r.take i)
       rwa [hV, List.length_take, Nat.min_eq_left (by omega)] at this
      have HV1 := Lib.hid hv1
      have HV2 := Lib.hid hv2
      clear hv1 hv2 hnx
      go_wp2_with fail
      go_roundw
      case rel =>
       refine ⟨i + 1, by omega, by go_num, trivial, _, rfl, ?_⟩
       by_cases hs : V < 36028797018963968
       ·rw [or_byte V cx hs, HV1.out]
        exact .inl ⟨rfl, by omega⟩
       ·obtain rfl : V = 36028797018963968 := by omega
        have hi7 : ¬ i <= 6 := fun h => by
         have := Nat.lt_of_lt_of_le HV2.out (Nat.pow_le_pow_right (by decide) h : 256 ^ i <= 256 ^ 6)
         omega
        obtain ⟨h1, h2⟩ := or_byte_neg cx.toNat hcc
        exact .inr ⟨by omega, h1, h2, by rw [HV1.out]; omega⟩
      case measure => simp [intOf]; omega
    ·obtain rfl : i = m := by omega
     have hdl : decide ((i : Int) < (i : Int)) = false := decide_eq_false (by omega)
     have hdl' : decide (i < i) = false := decide_eq_false (by omega)
     have hnb := Wr.nb_le q
     have hqq : q < 9223372036854775808 := by rcases hq with h | h <;> omega
     have hnum := fun W => wnumber_any (.slice none 0 0) [] q W.heap.size W hqq (by decide) (Nat.le_refl _) (Own.nil _ _ _)
     have HNUM := Lib.hid hnum
     clear hnum
     have hfst : (Wr.first (x :: r)) = if 4611686018427387904 < q \/ (Wr.nb q).length ≠ 1 + i then (0, -1) else (q.toNat, 1 + (i : Int)) := by
      simp only [Wr.first]
      rw [HM.out, if_neg hmz, if_neg (by omega)]
      rcases hq with ⟨e, hlt⟩ | ⟨_, hneg, _, hbig⟩
      ·subst e
       rw [Wr.nb_nat]
       by_cases h : 4611686018427387904 < Wr.val (r.take i) \/ (Wr.bytes (Wr.val (r.take i))).length ≠ 1 + i
       ·rw [if_pos h, if_pos (h.imp (fun h => by omega) id)]
       ·rw [if_neg h, if_neg (fun h2 => h (h2.imp (fun h => by omega) id))]
        rfl
      ·have h1 : (Wr.nb q).length = 1 := by rw [Wr.nb, if_pos (by omega)]; rfl
       rw [if_pos (.inl (by omega)), if_pos (.inr (by omega))]
     have HF := Lib.hid hfst
     clear hfst
     by_cases h62 : 4611686018427387904 < q
     ·have hd6 : decide ((4611686018427387904 : Int) < q) = true := decide_eq_true h62
      rw [if_pos (.inl h62)] at HF
      go_wp2_with fail
      go_ret2
      exact ⟨by rw [HF.out]; rfl, hL3⟩
     ·have hd6 : decide ((4611686018427387904 : Int) < q) = false := decide_eq_false h62
      generalize hbl : (Wr.nb q).length = bl at *
      have HBL := Lib.hid hbl
      clear hbl
      by_cases hbe : bl = 1 + i
      ·have hd7 : decide ((bl : Int) = 1 + (i : Int)) = true := decide_eq_true (by omega)
       rw [if_neg (fun h => h.elim h62 (fun h => h hbe))] at HF
       go_wp2_with (first
        | (go_at_call 106; refine (HNUM.out _).mono ?_; rintro e w5 ⟨v5, rfl, hown5, hgr5⟩; rw [List.nil_append] at hown5; obtain ⟨A5, c5, rfl, _, _, _⟩ := hown5.slice; rw [HBL.out])
        | fail)
       have hq0 : 0 <= q := by
        rcases hq with ⟨e, _⟩ | ⟨_, hneg, _, _⟩
        ·omega
        ·have h1 : (Wr.nb q).length = 1 := by rw [Wr.nb, if_pos (by omega)]; rfl
         have := HBL.out
         omega
       have hqn : ((q.toNat : Nat) : Int) = q := by omega
       have HQ := Lib.hid hqn
       clear hqn
       go_ret2
       exact ⟨by rw [HF.out]; show Ending.returned _ = Ending.returned (.tuple #[.int .i64 ((q.toNat : Nat) : Int), _]); rw [HQ.out]; rfl, hL3.grown hgr5.1 hL3.size (fun k e => by cases e)⟩
      ·have hd7 : decide ((bl : Int) = 1 + (i : Int)) = false := decide_eq_false (by omega)
       rw [if_pos (.inr hbe)] at HF
       go_wp2_with (first
        | (go_at_call 106; refine (HNUM.out _).mono ?_; rintro e w5 ⟨v5, rfl, hown5, hgr5⟩; rw [List.nil_append] at hown5; obtain ⟨A5, c5, rfl, _, _, _⟩ := hown5.slice; rw [HBL.out])
        | fail)
       go_ret2
       exact ⟨by rw [HF.out]; rfl, hL3.grown hgr5.1 hL3.size (fun k e => by cases e)⟩
end Go.Proofs.YtloiaaolnfimgaaGreat
namespace Go.Proofs.YtloiaaolnfimgaaGreat
open Go.RowKit
theorem Wr.first_le (l : List UInt8) : (Wr.first l).2 <= l.length /\ -1 <= (Wr.first l).2 /\ (Wr.first l).1 <= 4611686018427387904 := by
 rcases l with _ | ⟨x, r⟩
 ·simp [Wr.first]
 ·have hx := x.toNat_lt
  simp only [Wr.first]
  split
  ·simp; omega
  ·split
   ·simp; omega
   ·next h1 h2 =>
    split
    ·simp; omega
    ·next h3 =>
     have := not_or.1 h3
     simp at h2
     simp only [List.length_cons]
     omega
theorem grown_weak {X Y : World} (h : Below X.heap.size X Y) (r : Nat) : X.grownBy Y (some r) := ⟨h.os, h.tape, h.output, h.size, fun k hk _ => h.block k hk⟩
def Wr.may (l : List UInt8) (most : Int) : Prop := 0 < (Wr.first l).2 /\ ((Wr.first l).1 : Int) <= most
instance (l : List UInt8) (most : Int) : Decidable (Wr.may l most) := by unfold Wr.may; infer_instance
theorem rnumber_any (g : Nat) (A : Option Addr) (n c : Nat) (l : List UInt8) (most : Int) (w : World) (hn : l.length = n) (hc : n <= c) (hcm : c <= 9223372036854775807) (hr : Row w g 146 (rdC A n c true false)) (hd : Rd w A l) :
  Calls Tryz.prog 84 #[.pointer (some ⟨g, 0, none⟩), .int .i64 most] w fun e w' => w.grownBy w' (some g) /\ ((Wr.may l most /\ e = .returned (.int .i64 ((Wr.first l).1 : Int)) /\ ∃ D, Row w' g 146 (rdC D (n - (Wr.first l).2.toNat) (c - (Wr.first l).2.toNat) true false) /\ ∀ W, Rd W A l -> Rd W D (l.drop (Wr.first l).2.toNat)) \/ (¬ Wr.may l most /\ e = .panicked lacksP /\ Row w' g 146 (rdC A n c true false))) := by
 have h0 : w.cell? ⟨g, 0, none⟩ = some (.slice A n c) := (hr.cell 0).trans rfl
 have hfi := wfirst_any A n c l w hn hc hcm hd
 obtain ⟨h1, h2, h3⟩ := Wr.first_le l
 have HN := Lib.hid hn
 clear hn
 by_cases hm : Wr.may l most
 ·have HM := Lib.hid hm
  have hm2 := hm
  unfold Wr.may at hm2
  clear hm
  generalize Wr.first l = F at *
  obtain ⟨f, s⟩ := F
  obtain ⟨hk, hle⟩ := hm2
  obtain ⟨k, rfl⟩ : ∃ k : Nat, s = k := ⟨s.toNat, by have : 0 < s := hk; omega⟩
  replace h1 : (k : Int) <= l.length := h1
  replace hk : (0 : Int) < k := hk
  replace hle : (f : Int) <= most := hle
  have hkn : k <= n := by rw [<- HN.out]; omega
  have hdk : decide ((0 : Int) < (k : Int)) = true := decide_eq_true hk
  have hdk' : decide (0 < k) = true := decide_eq_true (by omega)
  have hdl : decide ((f : Int) <= most) = true := decide_eq_true hle
  go_enter Tryz.func84, Tryz.ntmps84
  go_wp2_with (first
   | (go_at_call 127; refine hfi.mono ?_; clear hfi; rintro e w1 ⟨rfl, hL1⟩)
   | (go_at_call 85; refine (must_any _ _).mono ?_; rintro e w2 ⟨rfl, rfl⟩)
   | (go_at_call 86; refine (rtake_any g A n c false l k _ HN.out hc hcm (by omega) (hr.belowAll hL1) (hd.below hL1)).mono ?_; rintro e w3 (⟨_, rfl, hD, hg3⟩ | ⟨hkn2, _⟩); rotate_left; exact absurd hkn2 (by omega))
   | fail)
  go_ret
  exact ⟨grown_trans (grown_weak hL1 g) hg3, .inl ⟨HM.out, rfl, by simpa using hD⟩⟩
 ·have HM := Lib.hid hm
  have hm2 := hm
  unfold Wr.may at hm2
  clear hm
  generalize Wr.first l = F at *
  obtain ⟨f, s⟩ := F
  by_cases hk : (0 : Int) < s
  ·have hle : ¬ (f : Int) <= most := fun h => hm2 ⟨hk, h⟩
   have hdk : decide ((0 : Int) < s) = true := decide_eq_true hk
   have hdl : decide ((f : Int) <= most) = false := decide_eq_false hle
   go_enter Tryz.func84, Tryz.ntmps84
   go_wp2_with (first
    | (go_at_call 127; refine hfi.mono ?_; clear hfi; rintro e w1 ⟨rfl, hL1⟩)
    | (go_at_call 85; refine (must_any _ _).mono ?_; rintro e w2 ⟨rfl, rfl⟩)
    | fail)
   exact ⟨rfl, grown_weak hL1 g, .inr ⟨HM.out, rfl, hr.belowAll hL1⟩⟩
  ·have hdk : decide ((0 : Int) < s) = false := decide_eq_false hk
   go_enter Tryz.func84, Tryz.ntmps84
   go_wp2_with (first
    | (go_at_call 127; refine hfi.mono ?_; clear hfi; rintro e w1 ⟨rfl, hL1⟩)
    | (go_at_call 85; refine (must_any _ _).mono ?_; rintro e w2 ⟨rfl, rfl⟩)
    | fail)
   exact ⟨rfl, grown_weak hL1 g, .inr ⟨HM.out, rfl, hr.belowAll hL1⟩⟩
theorem numFn_any (g q2 q3 q4 : Nat) (T2 T3 T4 : TypeId) (A : Option Addr) (n c : Nat) (l : List UInt8) (most : Int) (x : Int) (w : World) (hn : l.length = n) (hc : n <= c) (hcm : c <= 9223372036854775807) (hr : Row w g 146 (rdC A n c true false)) (hd : Rd w A l)
  (k2 : Row w q2 T2 #[.pointer (some ⟨g, 0, none⟩)]) (k3 : Row w q3 T3 #[.int .i64 most]) (k4 : Row w q4 T4 #[.int .i64 x]) (h4 : q4 ≠ g) :
  Calls Tryz.prog 124 #[.pointer (some ⟨q2, 0, none⟩), .pointer (some ⟨q3, 0, none⟩), .pointer (some ⟨q4, 0, none⟩)] w fun e w' => Same (fun k => k < w.heap.size /\ k ≠ g /\ k ≠ q4) w w' /\ ((Wr.may l most /\ e = .returned (.tuple #[]) /\ Row w' q4 T4 #[.int .i64 ((Wr.first l).1 : Int)] /\ ∃ D, Row w' g 146 (rdC D (n - (Wr.first l).2.toNat) (c - (Wr.first l).2.toNat) true false) /\ ∀ W, Rd W A l -> Rd W D (l.drop (Wr.first l).2.toNat)) \/ (¬ Wr.may l most /\ e = .panicked lacksP /\ Row w' q4 T4 #[.int .i64 x] /\ Row w' g 146 (rdC A n c true false))) := by
 have c2 : w.cell? ⟨q2, 0, none⟩ = some (.pointer (some ⟨g, 0, none⟩)) := (k2.cell 0).trans rfl
 have c3 : w.cell? ⟨q3, 0, none⟩ = some (.int .i64 most) := (k3.cell 0).trans rfl
 have hnu := rnumber_any g A n c l most w hn hc hcm hr hd
 have HR := Lib.hid hr
 have HN := Lib.hid hn
 clear hr hd hn
 go_enter Tryz.func124, Tryz.ntmps124
 go_wp2_with fail
 refine hnu.mono ?_
 clear hnu
 have hsz := k4.lt
 rintro e w1 ⟨hg1, ⟨hmay, rfl, D, kg, hD⟩ | ⟨hmay, rfl, kg⟩⟩
 ·have k41 := k4.grown hg1 (fun e => h4 (Option.some.inj e))
  have c4 : w1.cell? ⟨q4, 0, none⟩ = some (.int .i64 x) := (k41.cell 0).trans rfl
  have f4 : w1.frozen? ⟨q4, 0, none⟩ = false := k41.frozen 0
  have KG := Lib.hid kg
  have KD := Lib.hid hD
  have K4 := Lib.hid k41
  clear kg hD k41
  go_wp2_with fail
  go_end0
  have hs := Same.set w1 ⟨q4, 0, none⟩ (.int .i64 ((Wr.first l).1 : Int))
  exact ⟨((Same.of_grown hg1).mono (fun k h => ⟨h.1, fun e => h.2.1 (Option.some.inj e)⟩)).trans (hs.mono (fun k h => h.2.2)), .inl ⟨hmay, rfl, K4.out.set 0 _, D, KG.out.same hs (fun e => h4 e.symm), KD.out⟩⟩
 ·exact ⟨rfl, (Same.of_grown hg1).mono (fun k h => ⟨h.1, fun e => h.2.1 (Option.some.inj e)⟩), .inr ⟨hmay, rfl, k4.grown hg1 (fun e => h4 (Option.some.inj e)), kg⟩⟩
theorem rd_same_g {w w' : World} {g : Nat} {A : Option Addr} {n c : Nat} {made bad : Bool} {l : List UInt8} (hr : Row w g 146 (rdC A n c made bad)) (hd : Rd w A l) (hs : Same (fun k => k < w.heap.size /\ k ≠ g) w w') : Rd w' A l :=
 hd.same hs fun b o e hl => by
  subst e
  exact ⟨hd.lt rfl hl, rdC_ne hr hl hd⟩
section
variable {P : Program} {Q : Exit -> Act -> World -> Prop}
theorem op_callFK {K : Act -> World -> Prop} {o : Oper} {a : Act} {W : World} {f : FuncId} {xs : Array Operand} {ts : Array TypeId} {vs : Array Value} (ho : o.op = .call { callee := .value (.func f), args := xs, argTypes := ts }) (hv : xs.map a.eval = vs) (eg : ∀ args w, (callFunc f args).run P w = .ok (.enter f args) w)
  (h : Calls P f vs W fun e W' => ∃ v, e = .returned v /\ K (a.put o.dst v) W') : o.wp P a W K Q := by
 have hr : ((do let d <- resolve a.eval { callee := .value (.func f), args := xs, argTypes := ts } o.type; invoke d.target d.args) : Sem Next).run P W = .ok (.enter f vs) W := by
  simp [resolve, invoke, go_sem, hv, eg, Act.eval]
 unfold Oper.wp execOp
 simp only [ho]
 rw [hr]
 exact h.mono fun e W' ⟨v, he, hq⟩ => by subst he; exact hq
theorem last2_callK {o y : Oper} {a : Act} {W : World} {f : FuncId} {xs : Array Operand} {ts : Array TypeId} {vs : Array Value} {x : Operand} (ho : o.op = .call { callee := .value (.func f), args := xs, argTypes := ts }) (hv : xs.map a.eval = vs) (eg : ∀ args w, (callFunc f args).run P w = .ok (.enter f args) w) (hy : y.op = .assign x) (hx : ∀ v, (a.put o.dst v).eval x = v)
  (h : Calls P f vs W fun e W' => ∃ v, e = .returned v /\ Q .normal ((a.put o.dst v).put y.dst v) W') : LastOk2 P o y a W Q :=
 ⟨op_callFK ho hv eg (h.mono fun e W' ⟨v, he, hq⟩ => ⟨v, he, op_assignK (K := fun a W => Q .normal a W) hy (by rw [hx]; exact hq)⟩)⟩
theorem op_makeFunc {o : Oper} {a : Act} {W : World} {R : Value -> World -> Prop} {f : FuncId} {xs : Array Operand} {vs : Array Value} (ho : o.op = .makeFunc (.func f) #[] xs) (hv : xs.map a.eval = vs) (h : R (.func (.func f) #[] vs) W) : o.wp P a W (fun a' W' => ∃ v, a' = a.put o.dst v /\ Later W W' /\ R v W') Q := by
 have hr : (Instr.makeFunc (.func f) #[] vs).run P W = .ok (.func (.func f) #[] vs) W := rfl
 unfold Oper.wp execOp
 simp only [ho]
 simp [hv, hr, go_sem, Oper.upon]
 exact ⟨_, rfl, Later.refl _, h⟩
end
theorem loadPR {b o : Nat} {x : Option Addr} {W : World} (hc : W.cell? ⟨b, o, none⟩ = some (.pointer x)) : (Instr.loadAt 80 (.pointer (some ⟨b, o, none⟩))).run Tryz.prog W = .ok (.pointer x) W := by
 go_simp
theorem loadI64 {b o : Nat} {x : Int} {W : World} (hc : W.cell? ⟨b, o, none⟩ = some (.int .i64 x)) : (Instr.loadAt 2 (.pointer (some ⟨b, o, none⟩))).run Tryz.prog W = .ok (.int .i64 x) W := by
 go_simp
structure Moved (W : World) (g : Nat) (A : Option Addr) (l : List UInt8) (l' : List UInt8) (bad : Bool) : Prop where
 ex : ∃ D c, Row W g 146 (rdC D l'.length c true bad) /\ l'.length <= c /\ c <= 9223372036854775807 /\ ∀ X, Rd X A l -> Rd X D l'
theorem Moved.far {W : World} {g : Nat} {A : Option Addr} {l l' : List UInt8} {bad : Bool} (h : Moved W g A l l' bad) {p : Addr} (hp : g ≠ p.block) (v : Value) : Moved (W.setCell p v) g A l l' bad := by
 obtain ⟨D, c, h1, h2⟩ := h
 exact ⟨D, c, h1.far hp v, h2⟩
theorem read_mv (A : Option Addr) (n ca : Nat) (l : List UInt8) (w : World) (hn : l.length = n) (hbn : n <= 140737488355328) (hr : Rd w A l) :
  Calls Tryz.prog 35 #[.slice A n ca] w fun e w' => ∃ g A1, e = .returned (.pointer (some ⟨g, 0, none⟩)) /\ Moved w' g A1 l l false /\ Rd w' A1 l /\ (∀ b o, A1 = some ⟨b, o, none⟩ -> l ≠ [] -> w.heap.size <= b /\ b ≠ g) /\ w.heap.size <= g /\ Below w.heap.size w w' := by
 subst hn
 have hcl := clone_any A l.length ca l w rfl hbn hr
 go_enter Tryz.func35, Tryz.ntmps35
 go_wp2_with (first
  | (go_at_call 78; refine hcl.mono ?_; clear hcl; rintro e w1 ⟨v1, rfl, hown, hL1⟩; obtain ⟨A1, c1, rfl, h1, h2, hr1⟩ := hown.slice)
  | fail)
 go_ret
 refine ⟨_, A1, rfl, ⟨A1, c1, Row.new w1 _ _, h1, h2, fun _ h => h⟩, hr1.alloc _, fun b o e hne => ?_, hL1.size, hL1.alloc hL1.size _⟩
 subst e
 obtain ⟨q, c2, h1, _⟩ := hown.form hne
 injection h1 with h1
 injection h1 with h1
 injection h1 with h1 h2
 subst h1
 have := hown.at_ b (by rw [h2]; rfl)
 exact ⟨this.1, by omega⟩
def Wr.numR (l : List UInt8) (bad : Bool) (most : Int) : (List UInt8 × Bool) × Int × Int :=
 if bad then ((l, true), 0, 140) else if most < 0 then ((l, false), 0, 2) else if Wr.may l most then ((l.drop (Wr.first l).2.toNat, false), ((Wr.first l).1 : Int), 0) else ((l, true), 0, 140)
theorem rNumber_mv (g : Nat) (l : List UInt8) (bad : Bool) (most : Int) (w : World) (A : Option Addr) (c : Nat) (hrow : Row w g 146 (rdC A l.length c true bad)) (hc : l.length <= c) (hcm : c <= 9223372036854775807) (hd : Rd w A l) :
  Calls Tryz.prog 80 #[.pointer (some ⟨g, 0, none⟩), .int .i64 most] w fun e w' => Same (fun k => k < w.heap.size /\ k ≠ g) w w' /\ e = .returned (.tuple #[.int .i64 (Wr.numR l bad most).2.1, .int .i64 (Wr.numR l bad most).2.2]) /\ Moved w' g A l (Wr.numR l bad most).1.1 (Wr.numR l bad most).1.2 := by
 obtain ⟨n, hn⟩ : ∃ n, l.length = n := ⟨_, rfl⟩
 rw [hn] at hrow hc
 have k2 := ((Row.new w 80 #[.pointer (some ⟨g, 0, none⟩)]).alloc (.cells #[.int .i64 most] 2)).alloc (.cells #[.int .i64 0] 2)
 have k3 := (Row.new (w.alloc (.cells #[.pointer (some ⟨g, 0, none⟩)] 80)) 2 #[.int .i64 most]).alloc (.cells #[.int .i64 0] 2)
 have k4 := Row.new ((w.alloc (.cells #[.pointer (some ⟨g, 0, none⟩)] 80)).alloc (.cells #[.int .i64 most] 2)) 2 #[.int .i64 0]
 have hb := (((Later.refl w).alloc (.cells #[.pointer (some ⟨g, 0, none⟩)] 80)).alloc (.cells #[.int .i64 most] 2)).alloc (.cells #[.int .i64 0] 2)
 have hgl := hrow.lt
 have HN := Lib.hid hn
 have HRW := Lib.hid hrow
 clear hn hrow
 go_enter Tryz.func80, Tryz.ntmps80
 go_upto_region 1 with fail
 simp only [World.size_alloc] at k3 k4
 obtain ⟨q2, hq2⟩ : ∃ q, q = w.heap.size := ⟨_, rfl⟩
 rw [<- hq2] at k2 k3 k4 ⊢
 have HQ := Lib.hid hq2
 clear hq2
 generalize ((w.alloc (.cells #[.pointer (some ⟨g, 0, none⟩)] 80)).alloc (.cells #[.int .i64 most] 2)).alloc (.cells #[.int .i64 0] 2) = w1 at *
 have kg := HRW.out.later hb
 have hd1 := hd.later hb
 refine (wpIn_wide (n := 0)).1 ?_
 refine wpIn_region_last2 wide_wide [Pr.eq (.pointer (some ⟨g, 0, none⟩)), Pr.eq (.int .i64 most), Pr.eq (.int .i64 (if most < 0 then 2 else 0)), Pr.eq (.func (.func 124) #[] #[.pointer (some ⟨q2, 0, none⟩), .pointer (some ⟨q2 + 1, 0, none⟩), .pointer (some ⟨q2 + 1 + 1, 0, none⟩)])] (by kernel_rfl) (by kernel_rfl) (by kernel_rfl) (by kernel_rfl) (by kernel_rfl) (by kernel_rfl) rfl rfl (by kernel_rfl) ⟨?_, ?_, ?_, ?_, trivial⟩ ?_
 ·exact fun ac W hL he => stepOk_want rfl (op_load rfl (he.k 2) (loadPR (((k2.later hL).cell 0).trans rfl)) rfl)
 ·exact fun ac W hL he => stepOk_want rfl (op_load rfl (he.k 3) (loadI64 (((k3.later hL).cell 0).trans rfl)) rfl)
 ·intro ac W hL he; refine stepOk_want rfl ?_; have e0 : ac.eval (.tmp 7) = .int .i64 most := (he.g 1 7); exact op_callF (vs := #[.int .i64 most]) rfl (by simp only [List.map_toArray, List.map_cons, List.map_nil, e0]) (enters_of Tryz.func82 (by kernel_rfl) rfl) ((bound_any most W).mono fun e W' ⟨hw', he'⟩ => ⟨_, he', hw' ▸ Later.refl _, rfl⟩)
 ·intro ac W hL he; refine stepOk_want rfl (op_makeFunc rfl ?_ rfl); simp only [List.map_toArray, List.map_cons, List.map_nil, (he.k 2), (he.k 3), (he.k 4)]; rfl
 ·intro xs W hL hx hk hg
  have e6 := hg 0 6 (by decide) (by kernel_rfl)
  have e8 := hg 2 8 (by decide) (by kernel_rfl)
  have e9 := hg 3 9 (by decide) (by kernel_rfl)
  have v6 : xs 0 = .pointer (some ⟨g, 0, none⟩) := hx 0 (by decide)
  have v8 : xs 2 = .int .i64 (if most < 0 then 2 else 0) := hx 2 (by decide)
  have v9 : xs 3 = .func (.func 124) #[] #[.pointer (some ⟨q2, 0, none⟩), .pointer (some ⟨q2 + 1, 0, none⟩), .pointer (some ⟨q2 + 1 + 1, 0, none⟩)] := hx 3 (by decide)
  rw [v6] at e6
  rw [v8] at e8
  rw [v9] at e9
  have k2 := k2.later hL
  have k3 := k3.later hL
  have k4 := k4.later hL
  have kg := kg.later hL
  have hd1 := hd1.later hL
  have hb := hb.step hL
  have hq4 := k4.lt
  have hgW := kg.lt
  have hsz := hb.size
  refine last2_callK (vs := #[.pointer (some ⟨g, 0, none⟩), .int .i64 (if most < 0 then 2 else 0), .func (.func 124) #[] #[.pointer (some ⟨q2, 0, none⟩), .pointer (some ⟨q2 + 1, 0, none⟩), .pointer (some ⟨q2 + 1 + 1, 0, none⟩)]]) rfl (by simp only [List.map_toArray, List.map_cons, List.map_nil, e6, e8, e9]) (enters_of Tryz.func81 (by kernel_rfl) rfl) rfl (fun _ => rfl) ?_
  refine (try_any g A n c bad (if most < 0 then 2 else 0) _ _ W kg (fun k => k < w.heap.size /\ k ≠ g) (fun k h => ⟨Nat.lt_of_lt_of_le h.1 hsz, h.2⟩) (enters_of Tryz.func124 (by kernel_rfl) rfl _) (fun W' => ¬ Wr.may l most /\ Row W' (q2 + 1 + 1) 2 #[.int .i64 0])
   (fun X Y ⟨h1, h2⟩ hs => ⟨h1, h2.same hs ⟨hq4, by have := HQ.out; omega⟩⟩)
   (fun W' => Wr.may l most /\ Row W' (q2 + 1 + 1) 2 #[.int .i64 ((Wr.first l).1 : Int)] /\ ∃ D, Row W' g 146 (rdC D (n - (Wr.first l).2.toNat) (c - (Wr.first l).2.toNat) true false) /\ ∀ X, Rd X A l -> Rd X D (l.drop (Wr.first l).2.toNat))
   (fun X Y ⟨h0, h1, D, h2, h3⟩ hs => ⟨h0, h1.same hs hq4, D, h2.same hs hgW, h3⟩)
   (fun hbad h0 W1 hb1 => ?_)).mono ?_
  ·subst hbad
   refine (numFn_any g q2 (q2 + 1) (q2 + 1 + 1) _ _ 2 A n c l most 0 W1 HN.out hc hcm (kg.later hb1) (hd1.later hb1) (k2.later hb1) (k3.later hb1) (k4.later hb1) (by have := HQ.out; omega)).mono ?_
   have k41 := k4.later hb1
   rintro e W' ⟨hs, h⟩
   refine ⟨hs.mono (fun k h => ?_), ?_⟩
   ·have := HQ.out
    have := hb1.size
    rcases h with h | h
    ·exact ⟨by omega, h.2, by omega⟩
    ·exact ⟨h.2, by omega, by omega⟩
   ·rcases h with ⟨hm, rfl, hq, D, hD, hDr⟩ | ⟨hm, rfl, hq4, hq⟩
    ·exact .inl ⟨rfl, hm, hq, D, hD, hDr⟩
    ·exact .inr ⟨rfl, ⟨hm, hq4⟩, A, n, c, hq⟩
  clear hx hg v6 v8 v9
  rintro e W' ⟨hs, h⟩
  have hnn := HN.out
  obtain ⟨he, hk4, hR⟩ : e = .returned (.int .i64 (Wr.numR l bad most).2.2) /\ Row W' (q2 + 1 + 1) 2 #[.int .i64 (Wr.numR l bad most).2.1] /\ Moved W' g A l (Wr.numR l bad most).1.1 (Wr.numR l bad most).1.2 := by
   rcases h with ⟨rfl, rfl, hb2⟩ | ⟨rfl, hah, rfl, hb2⟩ | ⟨rfl, hah, ⟨rfl, hm, hq, D, hD, hDr⟩ | ⟨⟨hm, hq⟩, rfl, hq2⟩⟩
   ·exact ⟨rfl, k4.later hb2, A, c, by show Row W' g _ (rdC A l.length c true true); rw [hnn]; exact kg.later hb2, by show l.length <= c; omega, hcm, fun _ h => h⟩
   ·have hm0 : most < 0 := Decidable.byContradiction fun h => hah (if_neg h)
    have e1 : Wr.numR l false most = ((l, false), 0, 2) := by simp [Wr.numR, hm0]
    rw [e1, if_pos hm0]
    exact ⟨rfl, k4.later hb2, A, c, by show Row W' g _ (rdC A l.length c true false); rw [hnn]; exact kg.later hb2, by show l.length <= c; omega, hcm, fun _ h => h⟩
   ·have hm0 : ¬ most < 0 := fun h => by rw [if_pos h] at hah; cases hah
    have e1 : Wr.numR l false most = ((l.drop (Wr.first l).2.toNat, false), ((Wr.first l).1 : Int), 0) := by simp [Wr.numR, hm0, hm]
    rw [e1]
    exact ⟨rfl, hq, D, c - (Wr.first l).2.toNat, by show Row W' g _ (rdC D (l.drop (Wr.first l).2.toNat).length _ true false); rw [List.length_drop, hnn]; exact hD, by show (l.drop (Wr.first l).2.toNat).length <= _; rw [List.length_drop]; omega, by omega, hDr⟩
   ·have hm0 : ¬ most < 0 := fun h => by rw [if_pos h] at hah; cases hah
    have e1 : Wr.numR l false most = ((l, true), 0, 140) := by simp [Wr.numR, hm0, hm]
    rw [e1]
    exact ⟨rfl, hq, A, c, by show Row W' g _ (rdC A l.length c true true); rw [hnn]; exact hq2, by show l.length <= c; omega, hcm, fun _ h => h⟩
  subst he
  refine ⟨_, rfl, ?_⟩
  clear h e6 e8 e9 k2 k3 k4 kg hd1
  have hs0 := ((Same.of_below hb).mono (fun k h => h.1) |>.trans hs)
  have HR := Lib.hid hR
  have HS := Lib.hid hs0
  clear hR hs0 hs hb
  have c4 : W'.cell? ⟨q2 + 1 + 1, 0, none⟩ = some (.int .i64 (Wr.numR l bad most).2.1) := (hk4.cell 0).trans rfl
  have f4 : W'.frozen? ⟨q2 + 1 + 1, 0, none⟩ = false := hk4.frozen 0
  simp only [init2, pen2, last2, putL, Nat.reduceAdd, Act.put, List.setIfInBounds_toArray, List.set_cons_succ, List.set_cons_zero]
  go_wp2_with fail
  have k5 := hk4.set 0 (.int .i64 (Wr.numR l bad most).2.1)
  have hcv : (W'.setCell ⟨q2 + 1 + 1, 0, none⟩ (.int .i64 (Wr.numR l bad most).2.1)).cell? ⟨q2 + 1 + 1, 0, none⟩ = some (.int .i64 (Wr.numR l bad most).2.1) := (k5.cell 0).trans rfl
  have hst := Same.set W' ⟨q2 + 1 + 1, 0, none⟩ (.int .i64 (Wr.numR l bad most).2.1)
  have hq := HQ.out
  refine bodyPost_ret (v := .tuple #[.int .i64 (Wr.numR l bad most).2.1, .int .i64 (Wr.numR l bad most).2.2]) (by simp [results, Tryz.results80, go_sem, hcv]) rfl ⟨?_, rfl, ?_⟩
  ·exact HS.out.trans (hst.mono (fun k h => by show k ≠ q2 + 1 + 1; omega))
  ·exact (HR.out.far (p := ⟨q2 + 1 + 1, 0, none⟩) (by show g ≠ q2 + 1 + 1; omega) _)
section
variable {P : Program} {Q : Exit -> Act -> World -> Prop}
theorem laid_defers {ops : Array Oper} {a0 : Act} {l : Array Bool} {xs : Nat -> Value} : ∀ k, (laid ops a0 l xs k).defers = a0.defers
 | 0 => rfl
 | k + 1 => by
  rw [laid]
  split
  ·rw [show ((laid ops a0 l xs k).put (dstOf ops k) (xs k)).defers = (laid ops a0 l xs k).defers by unfold Act.put; split <;> rfl]
   exact laid_defers k
  ·exact laid_defers k
def updB (f : Nat -> Bool) (i : Nat) : Nat -> Bool := fun j => if j = i then true else f j
structure InvY (I : (Nat -> Bool) -> (Nat -> Value) -> World -> Prop) (ops : Array Oper) (a0 : Act) (l : Array Bool) (a : Act) (W : World) : Prop where
 size : l.size = ops.size
 closed : ∀ i j, l.getD i false = true -> waits ops i j = true -> l.getD j false = true
 act : ∃ xs : Nat -> Value, a = laid ops a0 l xs ops.size /\ I (fun j => l.getD j false) xs W
structure EnvY (ops : Array Oper) (a0 : Act) (f : Nat -> Bool) (i : Nat) (a : Act) (xs : Nat -> Value) : Prop where
 keep : ∀ x, keepsB ops i x = true -> a.eval x = a0.eval x
 val : ∀ j t, waits ops i j = true -> dstOf ops j = some t -> a.eval (.tmp t) = xs j
 todo : f i = false
 defers : a.defers = a0.defers
 done : ∀ j, waits ops i j = true -> f j = true
theorem EnvY.v {ops : Array Oper} {a0 : Act} {f : Nat -> Bool} {i : Nat} {a : Act} {xs : Nat -> Value} (h : EnvY ops a0 f i a xs) (j t : Nat) (h1 : waits ops i j = true := by kernel_rfl) (h2 : dstOf ops j = some t := by exact rfl) : a.eval (.tmp t) = xs j := h.val j t h1 h2
theorem EnvY.k {ops : Array Oper} {a0 : Act} {f : Nat -> Bool} {i : Nat} {a : Act} {xs : Nat -> Value} (h : EnvY ops a0 f i a xs) (t : Nat) (h1 : keepsB ops i (.tmp t) = true := by kernel_rfl) : a.eval (.tmp t) = a0.eval (.tmp t) := h.keep _ h1
def StepOkY (P : Program) (ops : Array Oper) (Q : Exit -> Act -> World -> Prop) (o : Oper) (a : Act) (W : World) (R : Value -> World -> Prop) : Prop :=
 if Region.wanted o (yielded ops a.tmps) then o.wp P a W (fun a' W' => ∃ v, a' = a.put o.dst v /\ R v W') Q else R undef W
theorem stepOkY_want {ops : Array Oper} {o : Oper} {a : Act} {W : World} {R : Value -> World -> Prop} (hg : o.guard = none) (h : o.wp P a W (fun a' W' => ∃ v, a' = a.put o.dst v /\ R v W') Q) : StepOkY P ops Q o a W R := by
 unfold StepOkY
 rw [if_pos (by unfold Region.wanted; rw [hg])]
 exact h
theorem stepOkY_later {ops : Array Oper} {o : Oper} {a : Act} {W : World} {R R' : Value -> World -> Prop} (hg : o.guard = none) (hR : ∀ v W', Later W W' -> R' v W' -> R v W') (h : o.wp P a W (fun a' W' => ∃ v, a' = a.put o.dst v /\ Later W W' /\ R' v W') Q) : StepOkY P ops Q o a W R :=
 stepOkY_want hg (Oper.wp_mono (fun a' W' ⟨v, h1, h2, h3⟩ => ⟨v, h1, hR v W' h2 h3⟩) h)
theorem wpAnyIn_tailY {F : Fence} (hF : Wide F) {n : Nat} {ops : Array Oper} (hp : plainAll ops = true) (hd : dstsB ops = true) (hb : backB ops = true) (ha : ancB ops = true) {a0 : Act} (hin : dstIn ops a0.tmps.size = true) {m : Nat} (hm : ops.size = m + 1) {last : Oper} (hlast : ops[m]? = some last)
  (I : (Nat -> Bool) -> (Nat -> Value) -> World -> Prop)
  (step : ∀ i o a W f xs, i < m -> ops[i]? = some o -> I f xs W -> EnvY ops a0 f i a xs -> StepOkY P ops Q o a W (fun v W' => I (updB f i) (upd xs i v) W'))
  (fin : ∀ f xs W, I f xs W -> (∀ j, j < m -> f j = true) -> f m = false -> (∀ x, keepsB ops m x = true -> (putL (ops.toList.take m) 0 xs a0).eval x = a0.eval x) -> (∀ j t, j < m -> dstOf ops j = some t -> (putL (ops.toList.take m) 0 xs a0).eval (.tmp t) = xs j) ->
   if Region.wanted last (yielded ops (putL (ops.toList.take m) 0 xs a0).tmps) then last.wp P (putL (ops.toList.take m) 0 xs a0) W (fun a' W' => Q .normal a' W') Q else Q .normal ((putL (ops.toList.take m) 0 xs a0).put last.dst undef) W) :
  ∀ (fuel : Nat) (l : Array Bool) (a : Act) (W : World), l.toList.count false <= fuel -> l.getD m false = false -> InvY I ops a0 l a W -> wpAnyIn F n P .any ops Q fuel l a W := by
 have hlaid : ∀ (l : Array Bool) (xs : Nat -> Value), l.getD m false = false -> (∀ i, i < m -> l.getD i false = true) -> laid ops a0 l xs ops.size = putL (ops.toList.take m) 0 xs a0 := fun l xs hf hl => by
  rw [hm, laid, if_neg (by rw [hf]; simp)]
  have key : ∀ (os : List Oper) (k : Nat), k + os.length = m -> (∀ j, j < os.length -> os[j]? = ops[k + j]?) -> putL os k xs (laid ops a0 l xs k) = laid ops a0 l xs m := by
   intro os
   induction os with
   | nil => intro k hk _; rw [show m = k from by simpa using hk.symm]; rfl
   | cons o os ih =>
    intro k hk hos
    rw [putL]
    have h0 : ops[k]? = some o := by have := hos 0 (by simp); simpa using this.symm
    have e : (laid ops a0 l xs k).put o.dst (xs k) = laid ops a0 l xs (k + 1) := by
     rw [laid, if_pos (hl k (by simp at hk; omega))]
     unfold dstOf
     rw [h0]
    rw [e]
    refine ih (k + 1) (by simp at hk; omega) (fun j hj => ?_)
    have := hos (j + 1) (by simp; omega)
    rw [List.getElem?_cons_succ] at this
    rw [this]
    congr 1
    omega
  refine (key (ops.toList.take m) 0 (by simp; omega) (fun j hj => ?_)).symm
  rw [List.getElem?_take_of_lt (by simp at hj; omega)]
  simp
 intro fuel
 induction fuel with
 | zero =>
  intro l a W hc hlf hI
  exfalso
  have hmm : m < l.size := by rw [hI.size]; omega
  have hmem : false ∈ l.toList := by
   have : l[m] = false := by simpa [Array.getD, hmm] using hlf
   rw [<- this]; exact Array.mem_toList_iff.2 (Array.getElem_mem hmm)
  have := List.count_pos_iff.2 hmem
  omega
 | succ fuel ih =>
  intro l a W hc hlf hI
  refine ⟨fun hr => ?_, fun i hi => ?_⟩
  ·have := ready_nil hb hI.size hr m (by omega)
   rw [hlf] at this; cases this
  obtain ⟨h1, o, ho, hdeps⟩ := mem_ready.1 hi
  have hlt : i < ops.size := (Array.getElem?_eq_some_iff.1 ho).1
  have hi' : i < l.size := by rw [hI.size]; exact hlt
  have hf : l.getD i false = false := by simp [Array.getD, hi'] at h1 ⊢; exact h1
  obtain ⟨xs, rfl, hx⟩ := hI.act
  have hdst : dstOf ops i = o.dst := by unfold dstOf; rw [ho]
  have hwl : ∀ j, waits ops i j = true -> l.getD j false = true := fun j hw => by
   unfold waits at hw
   rw [ho] at hw
   obtain ⟨k, hk, h2⟩ := Array.any_eq_true.1 hw
   simp at h2
   rw [<- h2.2]
   exact hdeps _ (Array.getElem_mem hk) h2.1
  have hjlt : ∀ j t, dstOf ops j = some t -> j < ops.size := fun j t h => by
   unfold dstOf at h
   cases hj : ops[j]? with
   | none => rw [hj] at h; cases h
   | some o' => exact (Array.getElem?_eq_some_iff.1 hj).1
  have hts : ∀ j t, dstOf ops j = some t -> t < a0.tmps.size := fun j t h => by
   unfold dstIn at hin
   rw [List.all_eq_true] at hin
   have := hin j (List.mem_range.2 (hjlt j t h))
   rw [h] at this
   simpa using this
  have hkeep : ∀ x, keepsB ops i x = true -> (laid ops a0 l xs ops.size).eval x = a0.eval x := fun x hk => laid_keep x _ (fun j d hj hjd hl hx' => by
    subst hx'
    unfold keepsB at hk
    rw [List.all_eq_true] at hk
    have h3 := hk j (List.mem_range.2 hj)
    rw [hjd] at h3
    simp at h3
    rcases h3 with h3 | h3
    ·subst h3; rw [hf] at hl; cases hl
    ·have := hI.closed j i hl h3
     rw [hf] at this; cases this)
  have hget : ∀ j t, l.getD j false = true -> dstOf ops j = some t -> (laid ops a0 l xs ops.size).eval (.tmp t) = xs j := fun j t hl ht => laid_get hd ht hl (hts j t ht) _ (Nat.le_refl _) (hjlt j t ht)
  by_cases him : i = m
  ·subst him
   have hall := anc_all ha hI.closed (by rw [hm]; simpa using hwl)
   rw [hm] at hall
   have hall' : ∀ j, j < i -> l.getD j false = true := fun j hj => hall j (by omega)
   obtain rfl : o = last := by rw [ho] at hlast; exact Option.some.inj hlast
   have hf2 := fin _ xs W hx hall' hlf (fun x hk => by rw [<- hlaid l xs hf hall']; exact hkeep x hk) (fun j t hj ht => by rw [<- hlaid l xs hf hall']; exact hget j t (hall' j hj) ht)
   rw [<- hlaid l xs hf hall'] at hf2
   have hend : ∀ a' W', Q .normal a' W' -> wpAnyIn F n P .any ops Q fuel (l.setIfInBounds i true) a' W' := fun a' W' hq => by
    refine wpAnyIn_done ?_ hq _
    rw [List.eq_nil_iff_forall_not_mem]
    intro k hk
    obtain ⟨h1, o', ho', _⟩ := mem_ready.1 hk
    have hklt : k < ops.size := (Array.getElem?_eq_some_iff.1 ho').1
    have hk' : k < (l.setIfInBounds i true).size := by rw [Array.size_setIfInBounds, hI.size]; exact hklt
    have h2 : (l.setIfInBounds i true).getD k false = true := by
     by_cases e : k = i
     ·subst e; simp [Array.getD, hi']
     ·exact getD_set_true (hall' k (by omega))
    generalize l.setIfInBounds i true = l' at *
    simp [Array.getD, hk'] at h1 h2
    rw [h2] at h1
    cases h1
   unfold wpOpIn
   rw [ho]
   simp only
   split
   ·rename_i hw
    rw [if_pos hw] at hf2
    exact Oper.wpIn_mono (fun a' W' h => hend a' W' h) (opIn_of_op hF (plainAll_get hp ho) hf2)
   ·rename_i hw
    rw [if_neg hw] at hf2
    exact ⟨fun f _ => hF.fn f, hend _ _ hf2⟩
  ·have henv : EnvY ops a0 (fun j => l.getD j false) i (laid ops a0 l xs ops.size) xs := ⟨hkeep, fun j t hw ht => hget j t (hwl j hw) ht, hf, laid_defers _, fun j hw => hwl j hw⟩
   have hs := step i o _ W _ xs (by omega) ho hx henv
   have hset : ∀ j, j ≠ i -> (l.setIfInBounds i true).getD j false = l.getD j false := fun j hj => getD_set_ne false (fun e => hj e.symm)
   have hupd : (fun j => (l.setIfInBounds i true).getD j false) = updB (fun j => l.getD j false) i := by
    funext j
    by_cases e : j = i
    ·subst e; simp [updB, Array.getD, hi']
    ·rw [hset j e]; simp [updB, e]
   have next : ∀ v W', I (updB (fun j => l.getD j false) i) (upd xs i v) W' -> InvY I ops a0 (l.setIfInBounds i true) ((laid ops a0 l xs ops.size).put o.dst v) W' := fun v W' hv => by
    refine ⟨by simpa using hI.size, fun p q hp hw => ?_, upd xs i v, ?_, ?_⟩
    ·by_cases e : p = i
     ·subst e
      exact getD_set_true (hwl q hw)
     ·rw [hset p e] at hp
      exact getD_set_true (hI.closed p q hp hw)
    ·rw [<- hdst]
     exact laid_put hd v hi' hf _ (Nat.le_refl _) hlt
    ·rw [hupd]; exact hv
   have hcnt : (l.setIfInBounds i true).toList.count false <= fuel := by
    have hil : i < l.toList.length := by simpa using hi'
    have hlv : l.toList[i] = false := by simpa [Array.getD, hi'] using hf
    have := List.count_set (a := true) (b := false) (l := l.toList) (i := i) hil
    rw [Array.toList_setIfInBounds, this, hlv, if_pos (show (false == false) = true from rfl), if_neg (show ¬ (true == false) = true from by decide)]
    have hp : 0 < l.toList.count false := List.count_pos_iff.2 (by rw [<- hlv]; exact List.getElem_mem hil)
    omega
   have hlf' : (l.setIfInBounds i true).getD m false = false := by rw [hset m (fun e => him e.symm)]; exact hlf
   unfold wpOpIn
   rw [ho]
   unfold StepOkY at hs
   simp only
   split
   ·rename_i hw
    rw [if_pos hw] at hs
    refine Oper.wpIn_mono (fun a' W' h => ?_) (opIn_of_op hF (plainAll_get hp ho) hs)
    obtain ⟨v, rfl, hv⟩ := h
    exact ih _ _ _ hcnt hlf' (next v W' hv)
   ·rename_i hw
    rw [if_neg hw] at hs
    exact ⟨fun f _ => hF.fn f, ih _ _ _ hcnt hlf' (next undef W hs)⟩
theorem wpIn_region_tailY {F : Fence} (hF : Wide F) {n : Nat} {id : Nat} {l : List Oper} {last : Oper} {a0 : Act} {w : World} (I : (Nat -> Bool) -> (Nat -> Value) -> World -> Prop) (hI0 : I (fun _ => false) (fun _ => undef) w.drew) (hm : P.follows .mixedOrders = true) (hp : plainAll (l ++ [last]).toArray = true) (hd : dstsB (l ++ [last]).toArray = true) (hb : backB (l ++ [last]).toArray = true) (ha : ancB (l ++ [last]).toArray = true) (hin : dstIn (l ++ [last]).toArray a0.tmps.size = true)
  (step : AllFrom (fun i o => ∀ a W f xs, I f xs W -> EnvY (l ++ [last]).toArray a0 f i a xs -> StepOkY P (l ++ [last]).toArray Q o a W (fun v W' => I (updB f i) (upd xs i v) W')) 0 l) (hg : last.guard = none)
  (fin : ∀ f xs W, I f xs W -> (∀ j, j < l.length -> f j = true) -> f l.length = false -> (∀ x, keepsB (l ++ [last]).toArray l.length x = true -> (putL l 0 xs a0).eval x = a0.eval x) -> (∀ j t, j < l.length -> dstOf (l ++ [last]).toArray j = some t -> (putL l 0 xs a0).eval (.tmp t) = xs j) ->
   last.wp P (putL l 0 xs a0) W (fun a' W' => Q .normal a' W') Q) : (Code.region id (l ++ [last]).toArray true).wpIn F n P Q a0 w := by
 have htake : (l ++ [last]).toArray.toList.take l.length = l := by simp
 refine wpIn_region_any hm (wpAnyIn_tailY hF hp hd hb ha hin (m := l.length) (last := last) (by simp) (by simp) I (fun i o a W f xs hi ho hL he => ?_) (fun f xs W hL hd0 hm0 hk hg' => ?_) _ _ _ _ ?_ ?_ ⟨by simp, fun i j hi _ => ?_, fun _ => undef, ?_, ?_⟩)
 ·have h := allFrom_get l 0 step i o (by
   rw [List.getElem?_toArray, List.getElem?_append_left hi] at ho
   exact ho)
  rw [Nat.zero_add] at h
  exact h a W f xs hL he
 ·rw [htake] at hk hg' ⊢
  rw [if_pos (by unfold Region.wanted; rw [hg])]
  exact fin f xs W hL hd0 hm0 hk hg'
 ·simp
 ·simp [Array.getD]
 ·exfalso
  simp [Array.getD] at hi
 ·have : ∀ k, laid (l ++ [last]).toArray a0 (Array.replicate (l ++ [last]).toArray.size false) (fun _ => undef) k = a0 := fun k => by
   induction k with
   | zero => rfl
   | succ k ih => rw [laid, if_neg (by simp [Array.getD]), ih]
  exact (this _).symm
 ·have e : (fun j => (Array.replicate (l ++ [last]).toArray.size false).getD j false) = fun _ => false := by
   funext j
   simp [Array.getD]
  rw [e]
  exact hI0
theorem wpIn_region_lastY {F : Fence} (hF : Wide F) {n : Nat} {id : Nat} {o : Oper} {os : List Oper} {a0 : Act} {w : World} (I : (Nat -> Bool) -> (Nat -> Value) -> World -> Prop) (hI0 : I (fun _ => false) (fun _ => undef) w.drew) (hm : P.follows .mixedOrders = true) (hp : plainAll (o :: os).toArray = true) (hd : dstsB (o :: os).toArray = true) (hb : backB (o :: os).toArray = true) (ha : ancB (o :: os).toArray = true) (hin : dstIn (o :: os).toArray a0.tmps.size = true) (hg : (lastL o os).guard = none)
  (step : AllFrom (fun i o' => ∀ a W f xs, I f xs W -> EnvY (o :: os).toArray a0 f i a xs -> StepOkY P (o :: os).toArray Q o' a W (fun v W' => I (updB f i) (upd xs i v) W')) 0 (initL o os))
  (fin : ∀ f xs W, I f xs W -> (∀ j, j < (initL o os).length -> f j = true) -> f (initL o os).length = false -> (∀ x, keepsB (o :: os).toArray (initL o os).length x = true -> (putL (initL o os) 0 xs a0).eval x = a0.eval x) -> (∀ j t, j < (initL o os).length -> dstOf (o :: os).toArray j = some t -> (putL (initL o os) 0 xs a0).eval (.tmp t) = xs j) ->
   LastOk P (lastL o os) (putL (initL o os) 0 xs a0) W Q) : (Code.region id (o :: os).toArray true).wpIn F n P Q a0 w := by
 have e := init_last os o
 rw [<- e] at hp hd hb ha hin step fin ⊢
 exact wpIn_region_tailY hF I hI0 hm hp hd hb ha hin step hg (fun f xs W hL hd0 hm0 hk hg' => (fin f xs W hL hd0 hm0 hk hg').run)
end
def Wr.tried (l l1 : List UInt8) (bad : Bool) (ahead : Int) (ok : Bool) : (List UInt8 × Bool) × Int :=
 if bad then ((l, true), 140) else if ahead ≠ 0 then ((l, false), ahead) else if ok then ((l1, false), 0) else ((l, true), 140)
def Wr.took (bad : Bool) (ahead : Int) (ok : Bool) : Bool := !bad && decide (ahead = 0) && ok
theorem Moved.same {W W' : World} {g : Nat} {A : Option Addr} {l l' : List UInt8} {bad : Bool} {p : Nat -> Prop} (h : Moved W g A l l' bad) (hs : Same p W W') (hp : p g) : Moved W' g A l l' bad := by
 obtain ⟨D, c, h1, h2⟩ := h
 exact ⟨D, c, h1.same hs hp, h2⟩
theorem try_moved (g : Nat) (A : Option Addr) (n c : Nat) (l l1 : List UInt8) (bad : Bool) (ahead : Int) (F : FuncId) (caps : Array Value) (W : World) (hr : Row W g 146 (rdC A n c true bad)) (hn : l.length = n) (hc : n <= c) (hcm : c <= 9223372036854775807)
  (q4 : Nat) (hq4 : q4 < W.heap.size) (R0 R1 : World -> Prop) (h0 : R0 W) (hR0 : ∀ X Y, R0 X -> Same (fun k => k < W.heap.size /\ k ≠ g) X Y -> R0 Y) (hR1 : ∀ X Y, R1 X -> Same (fun k => k < W.heap.size /\ k ≠ g) X Y -> R1 Y) (hen : ∀ w, (callFunc F caps).run Tryz.prog w = .ok (.enter F caps) w) (ok : Bool)
  (hcl : bad = false -> ahead = 0 -> ∀ W1, Below W.heap.size W W1 -> Calls Tryz.prog F caps W1 fun e W' => Same (fun k => k < W1.heap.size /\ k ≠ g /\ k ≠ q4) W1 W' /\ ((ok = true /\ e = .returned (.tuple #[]) /\ R1 W' /\ Moved W' g A l l1 false) \/ (ok = false /\ e = .panicked lacksP /\ R0 W' /\ ∃ D n' c', Row W' g 146 (rdC D n' c' true false)))) :
  Calls Tryz.prog 81 #[.pointer (some ⟨g, 0, none⟩), .int .i64 ahead, .func (Fn.func F) #[] caps] W fun e W' => Same (fun k => k < W.heap.size /\ k ≠ g /\ k ≠ q4) W W' /\ e = .returned (.int .i64 (Wr.tried l l1 bad ahead ok).2) /\ Moved W' g A l (Wr.tried l l1 bad ahead ok).1.1 (Wr.tried l l1 bad ahead ok).1.2 /\ (Wr.took bad ahead ok = true -> R1 W') /\ (Wr.took bad ahead ok = false -> R0 W') := by
 have hg := hr.lt
 subst hn
 refine (try_any g A l.length c bad ahead F caps W hr (fun k => k < W.heap.size /\ k ≠ g /\ k ≠ q4) (fun k h => ⟨h.1, h.2.1⟩) hen (fun W' => ok = false /\ R0 W') (fun X Y h hs => ⟨h.1, hR0 X Y h.2 hs⟩) (fun W' => ok = true /\ R1 W' /\ Moved W' g A l l1 false) (fun X Y h hs => ⟨h.1, hR1 X Y h.2.1 (hs.mono fun k h => h.1), h.2.2.same hs hg⟩) (fun hb ha W1 hb1 => ?_)).mono ?_
 ·have hsz := hb1.size
  refine (hcl hb ha W1 hb1).mono ?_
  rintro e W' ⟨hs, h⟩
  refine ⟨hs.mono (fun k h => ?_), ?_⟩
  ·rcases h with h | h
   ·exact ⟨by omega, h.2.1, h.2.2⟩
   ·exact ⟨h.2, by omega, by omega⟩
  ·rcases h with ⟨ho, rfl, h1, h2⟩ | ⟨ho, rfl, h1, h2⟩
   ·exact .inl ⟨rfl, ho, h1, h2⟩
   ·exact .inr ⟨rfl, ⟨ho, h1⟩, h2⟩
 ·have hid : ∀ X : World, Below W.heap.size W X -> ∀ b, bad = b -> Moved X g A l l b := fun X hX b e => ⟨A, c, by rw [<- e]; exact hr.later hX, hc, hcm, fun _ h => h⟩
  rintro e W' ⟨hs, ⟨rfl, rfl, hb⟩ | ⟨rfl, ha, rfl, hb⟩ | ⟨rfl, rfl, ⟨rfl, rfl, h1, h2⟩ | ⟨⟨rfl, h1⟩, rfl, h2⟩⟩⟩
  ·exact ⟨hs, rfl, hid _ hb _ rfl, fun h => by simp [Wr.took] at h, fun _ => hR0 _ _ h0 ((Same.of_below hb).mono fun k h => h.1)⟩
  ·have e1 : Wr.tried l l1 false ahead ok = ((l, false), ahead) := by simp [Wr.tried, ha]
   rw [e1]
   exact ⟨hs, rfl, hid _ hb _ rfl, fun h => by simp [Wr.took, ha] at h, fun _ => hR0 _ _ h0 ((Same.of_below hb).mono fun k h => h.1)⟩
  ·exact ⟨hs, rfl, h2, fun _ => h1, fun h => by simp [Wr.took] at h⟩
  ·exact ⟨hs, rfl, ⟨A, c, h2, hc, hcm, fun _ h => h⟩, fun h => by simp [Wr.took] at h, fun _ => h1⟩
theorem endFn_any (g q1 : Nat) (T1 : TypeId) (A : Option Addr) (n c : Nat) (w : World) (hr : Row w g 146 (rdC A n c true false)) (k1 : Row w q1 T1 #[.pointer (some ⟨g, 0, none⟩)]) :
  Calls Tryz.prog 87 #[.pointer (some ⟨q1, 0, none⟩)] w fun e w' => w' = w /\ ((n = 0 /\ e = .returned (.tuple #[])) \/ (n ≠ 0 /\ e = .panicked lacksP)) := by
 have c1 : w.cell? ⟨q1, 0, none⟩ = some (.pointer (some ⟨g, 0, none⟩)) := (k1.cell 0).trans rfl
 have hc : w.cell? ⟨g, 0, none⟩ = some (.slice A n c) := (hr.cell 0).trans rfl
 by_cases hne : n = 0
 ·have hd : ((n : Int) == 0) = true := by simp; omega
  go_enter Tryz.func87, Tryz.ntmps87
  go_wp2_with (first
   | (go_at_call 85; refine (must_any _ _).mono ?_; rintro e w2 ⟨rfl, rfl⟩)
   | fail)
  go_end0
  exact ⟨rfl, .inl ⟨hne, rfl⟩⟩
 ·have hd : ((n : Int) == 0) = false := by simp; omega
  go_enter Tryz.func87, Tryz.ntmps87
  go_wp2_with (first
   | (go_at_call 85; refine (must_any _ _).mono ?_; rintro e w2 ⟨rfl, rfl⟩)
   | fail)
  exact ⟨rfl, rfl, .inr ⟨hne, rfl⟩⟩
def Wr.endR (l : List UInt8) (bad : Bool) : (List UInt8 × Bool) × Int := if bad || !l.isEmpty then ((l, true), 140) else ((l, false), 0)
theorem Wr.endR_eq (l : List UInt8) (bad : Bool) : Wr.tried l [] bad 0 l.isEmpty = Wr.endR l bad := by
 cases bad <;> cases l <;> simp [Wr.tried, Wr.endR]
theorem end_mv (g : Nat) (l : List UInt8) (bad : Bool) (w : World) (A : Option Addr) (c : Nat) (hrow : Row w g 146 (rdC A l.length c true bad)) (hc : l.length <= c) (hcm : c <= 9223372036854775807) (hd : Rd w A l) :
  Calls Tryz.prog 39 #[.pointer (some ⟨g, 0, none⟩)] w fun e w' => Same (fun k => k < w.heap.size /\ k ≠ g) w w' /\ e = .returned (.int .i64 (Wr.endR l bad).2) /\ Moved w' g A l (Wr.endR l bad).1.1 (Wr.endR l bad).1.2 := by
 have hmf : ∀ (fn : Fn) (first cap : Array Value) (w : World), (Instr.makeFunc fn first cap).run Tryz.prog w = .ok (.func fn first cap) w := fun _ _ _ _ => rfl
 have k1 := Row.new w 80 #[.pointer (some ⟨g, 0, none⟩)]
 have kg := hrow.alloc (.cells #[.pointer (some ⟨g, 0, none⟩)] 80)
 have hb := below_new w (.cells #[.pointer (some ⟨g, 0, none⟩)] 80)
 have HRW := Lib.hid hrow
 clear hrow
 go_enter Tryz.func39, Tryz.ntmps39
 go_upto_region 1 with fail
 obtain ⟨q1, hq1⟩ : ∃ q, q = w.heap.size := ⟨_, rfl⟩
 rw [<- hq1] at k1 ⊢
 have HQ := Lib.hid hq1
 clear hq1
 generalize w.alloc (.cells #[.pointer (some ⟨g, 0, none⟩)] 80) = w1 at *
 have c1 : w1.cell? ⟨q1, 0, none⟩ = some (.pointer (some ⟨g, 0, none⟩)) := (k1.cell 0).trans rfl
 have htry := try_moved g A l.length c l [] bad 0 _ #[.pointer (some ⟨q1, 0, none⟩)] w1 kg rfl hc hcm g kg.lt (fun _ => True) (fun _ => True) trivial (fun _ _ _ _ => trivial) (fun _ _ _ _ => trivial) (enters_of Tryz.func87 (by kernel_rfl) rfl _) l.isEmpty (fun hbad _ W1 hb1 => by
  subst hbad
  refine (endFn_any g q1 _ A l.length c W1 (kg.later hb1) (k1.later hb1)).mono ?_
  rintro e W' ⟨rfl, h⟩
  refine ⟨Same.refl _ _, ?_⟩
  rcases h with ⟨h, rfl⟩ | ⟨h, rfl⟩
  ·have e0 : l = [] := List.eq_nil_of_length_eq_zero h
   subst e0
   exact .inl ⟨rfl, rfl, trivial, A, c, kg.later hb1, hc, hcm, fun _ h => h⟩
  ·exact .inr ⟨by cases l <;> simp at h ⊢, rfl, trivial, A, l.length, c, kg.later hb1⟩)
 rw [Wr.endR_eq] at htry
 go_wp2_with (first
  | (go_at_call 81; refine htry.mono ?_; clear htry; rintro e w2 ⟨hs, rfl, hm, _, _⟩)
  | fail)
 go_ret
 have hs0 : Same (fun k => k < w.heap.size /\ k ≠ g) w w2 := ((Same.of_below hb).mono (fun k h => h.1)).trans (hs.mono (fun k h => ⟨Nat.lt_of_lt_of_le h.1 hb.size, h.2, h.2⟩))
 exact ⟨hs0, rfl, hm⟩
theorem Rd.grown_g {w w' : World} {g : Nat} {A : Option Addr} {n c : Nat} {made bad : Bool} {l : List UInt8} (hd : Rd w A l) (hr : Row w g 146 (rdC A n c made bad)) (hg : w.grownBy w' (some g)) : Rd w' A l :=
 rd_same_g hr hd ((Same.of_grown hg).mono fun k h => ⟨h.1, fun e => h.2 (Option.some.inj e)⟩)
theorem sliceHash {g : Nat} (W : World) : (Instr.sliceAt 25 (.pointer (some ⟨g, 0, none⟩)) none none none).run Tryz.prog W = .ok (.slice (some ⟨g, 0, none⟩) 32 32) W := by
 obtain ⟨i, hi0, hz, hs, hb⟩ := info_parts info5
 simp [Instr.sliceAt, run_underlying Tryz.underlying25, sizeOf, typeInfo, hi0, hs, go_sem]
def Wr.textOk (l : List UInt8) (most : Int) : Bool := decide (Wr.may l most) && decide ((Wr.first l).1 <= l.length - (Wr.first l).2.toNat)
def Wr.textAt (l : List UInt8) : List UInt8 := (l.drop (Wr.first l).2.toNat).take (Wr.first l).1
def Wr.textRest (l : List UInt8) : List UInt8 := (l.drop (Wr.first l).2.toNat).drop (Wr.first l).1
theorem textFn_any (g q1 q2 q3 : Nat) (T1 T2 T3 : TypeId) (A : Option Addr) (n c : Nat) (l : List UInt8) (most : Int) (s0 : Value) (w : World) (hn : l.length = n) (hc : n <= c) (hcm : c <= 9223372036854775807) (hr : Row w g 146 (rdC A n c true false)) (hd : Rd w A l)
  (k1 : Row w q1 T1 #[.pointer (some ⟨g, 0, none⟩)]) (k2 : Row w q2 T2 #[.int .i64 most]) (k3 : Row w q3 T3 #[s0]) (h1 : q1 ≠ g) (h3 : q3 ≠ g) :
  Calls Tryz.prog 83 #[.pointer (some ⟨q1, 0, none⟩), .pointer (some ⟨q2, 0, none⟩), .pointer (some ⟨q3, 0, none⟩)] w fun e w' => Same (fun k => k < w.heap.size /\ k ≠ g /\ k ≠ q3) w w' /\ ((Wr.textOk l most = true /\ e = .returned (.tuple #[]) /\ Row w' q3 T3 #[.string ⟨(Wr.textAt l).toArray⟩] /\ Moved w' g A l (Wr.textRest l) false) \/ (Wr.textOk l most = false /\ e = .panicked lacksP /\ Row w' q3 T3 #[s0] /\ ∃ D n' c', Row w' g 146 (rdC D n' c' true false))) := by
 have c1 : w.cell? ⟨q1, 0, none⟩ = some (.pointer (some ⟨g, 0, none⟩)) := (k1.cell 0).trans rfl
 have c2 : w.cell? ⟨q2, 0, none⟩ = some (.int .i64 most) := (k2.cell 0).trans rfl
 have hnu := rnumber_any g A n c l most w hn hc hcm hr hd
 have hid : ∀ w1, w.grownBy w1 (some g) -> Same (fun k => k < w.heap.size /\ k ≠ g /\ k ≠ q3) w w1 := fun w1 hg => (Same.of_grown hg).mono (fun k h => ⟨h.1, fun e => h.2.1 (Option.some.inj e)⟩)
 have hk3 : ∀ w1, w.grownBy w1 (some g) -> Row w1 q3 T3 #[s0] := fun w1 hg => k3.grown hg (fun e => h3 (Option.some.inj e))
 obtain ⟨hf1, hf2, hf3⟩ := Wr.first_le l
 have HN := Lib.hid hn
 clear hn
 by_cases hm : Wr.may l most
 ·have HM := Lib.hid hm
  have hm2 := hm
  unfold Wr.may at hm2
  have hok : Wr.textOk l most = decide ((Wr.first l).1 <= n - (Wr.first l).2.toNat) := by rw [Wr.textOk, decide_eq_true hm, Bool.true_and, HN.out]
  have hat : Wr.textAt l = (l.drop (Wr.first l).2.toNat).take (Wr.first l).1 := rfl
  have hre : Wr.textRest l = (l.drop (Wr.first l).2.toNat).drop (Wr.first l).1 := rfl
  rw [hok, hat, hre]
  clear hm hok hat hre
  generalize Wr.first l = F at *
  obtain ⟨f, s⟩ := F
  obtain ⟨hk, hle⟩ := hm2
  obtain ⟨k, rfl⟩ : ∃ k : Nat, s = k := ⟨s.toNat, by have : 0 < s := hk; omega⟩
  replace hf1 : (k : Int) <= l.length := hf1
  replace hf3 : f <= 4611686018427387904 := hf3
  have hkn : k <= n := by rw [<- HN.out]; omega
  simp only [Int.toNat_natCast] at hnu ⊢
  by_cases hfl : f <= n - k
  ·have hd1 : decide ((f : Int) <= ((n - k : Nat) : Int)) = true := decide_eq_true (by omega)
   rw [decide_eq_true hfl]
   go_enter Tryz.func83, Tryz.ntmps83
   go_upto_region 1 with (first
    | (go_at_call 84; refine hnu.mono ?_; clear hnu; rintro e w1 ⟨hg1, ⟨_, rfl, D, kg, hD⟩ | ⟨hmn, _⟩⟩; rotate_left; exact absurd HM.out hmn)
    | fail)
   have k11 := k1.grown hg1 (fun e => h1 (Option.some.inj e))
   have c11 : w1.cell? ⟨q1, 0, none⟩ = some (.pointer (some ⟨g, 0, none⟩)) := (k11.cell 0).trans rfl
   have cg1 : w1.cell? ⟨g, 0, none⟩ = some (.slice D (n - k) (c - k)) := (kg.cell 0).trans rfl
   have hrd1 := hD _ (hd.grown_g hr hg1)
   have htk := rtake_any g D (n - k) (c - k) false (l.drop k) f w1 (by rw [List.length_drop, HN.out]) (by omega) (by omega) (by omega) kg hrd1
   have KG := Lib.hid kg
   have HD := Lib.hid hD
   clear kg hD
   go_upto_region 2 with (first
    | (go_at_call 85; refine (must_any _ _).mono ?_; rintro e w2 ⟨rfl, rfl⟩)
    | fail)
   go_wp2_with (first
    | (go_at_call 86; refine htk.mono ?_; clear htk; rintro e w3 (⟨_, rfl, hD2, hg2⟩ | ⟨h, _⟩); rotate_left; exact absurd h (by omega); have hcv := run_string_rd (P := Tryz.prog) w3 60 9 5 D f (c - k) ((l.drop k).take f) Tryz.underlying60 Tryz.underlying5 Tryz.underlying9 (by rw [List.length_take, List.length_drop, HN.out]; omega) (Rd.take (hrd1.grown_g KG.out hg2) f); have k33 := (hk3 _ (grown_trans hg1 hg2)); have c3 : w3.cell? ⟨q3, 0, none⟩ = some s0 := (k33.cell 0).trans rfl; have f3 : w3.frozen? ⟨q3, 0, none⟩ = false := k33.frozen 0; have K3 := Lib.hid k33; have HD2 := Lib.hid hD2; have HG := Lib.hid (grown_trans hg1 hg2); clear k33 hD2 hg2)
    | fail)
   go_end0
   obtain ⟨D2, hD2, hDr⟩ := HD2.out
   have hs3 := Same.set w3 ⟨q3, 0, none⟩ (.string ⟨((l.drop k).take f).toArray⟩)
   have hl3 : ((l.drop k).drop f).length = n - k - f := by rw [List.length_drop, List.length_drop, HN.out]
   exact ⟨(hid _ HG.out).trans (hs3.mono (fun k h => h.2.2)), .inl ⟨trivial, rfl, K3.out.set 0 _, Moved.far ⟨D2, c - k - f, by rw [hl3]; exact hD2, by rw [hl3]; omega, by omega, fun X hX => hDr X (HD.out X hX)⟩ (fun e => h3 e.symm) _⟩⟩
  ·have hd1 : decide ((f : Int) <= ((n - k : Nat) : Int)) = false := decide_eq_false (by omega)
   rw [decide_eq_false hfl]
   go_enter Tryz.func83, Tryz.ntmps83
   go_upto_region 1 with (first
    | (go_at_call 84; refine hnu.mono ?_; clear hnu; rintro e w1 ⟨hg1, ⟨_, rfl, D, kg, hD⟩ | ⟨hmn, _⟩⟩; rotate_left; exact absurd HM.out hmn)
    | fail)
   have k11 := k1.grown hg1 (fun e => h1 (Option.some.inj e))
   have c11 : w1.cell? ⟨q1, 0, none⟩ = some (.pointer (some ⟨g, 0, none⟩)) := (k11.cell 0).trans rfl
   have cg1 : w1.cell? ⟨g, 0, none⟩ = some (.slice D (n - k) (c - k)) := (kg.cell 0).trans rfl
   have KG := Lib.hid kg
   clear kg hD
   go_wp2_with (first
    | (go_at_call 85; refine (must_any _ _).mono ?_; rintro e w2 ⟨rfl, rfl⟩)
    | fail)
   exact ⟨rfl, hid _ hg1, .inr ⟨trivial, rfl, hk3 _ hg1, D, _, _, KG.out⟩⟩
 ·have hok : Wr.textOk l most = false := by simp [Wr.textOk, hm]
  rw [hok]
  have HM := Lib.hid hm
  clear hm hok
  go_enter Tryz.func83, Tryz.ntmps83
  go_wp2_with (first
   | (go_at_call 84; refine hnu.mono ?_; clear hnu; rintro e w1 ⟨hg1, ⟨hmn, _⟩ | ⟨_, rfl, kg⟩⟩; exact absurd hmn HM.out)
   | fail)
  exact ⟨rfl, hid _ hg1, .inr ⟨trivial, rfl, hk3 _ hg1, A, n, c, kg⟩⟩
def Wr.textR (l : List UInt8) (bad : Bool) (most : Int) : (List UInt8 × Bool) × List UInt8 × Int :=
 if bad then ((l, true), [], 140) else if most < 0 then ((l, false), [], 2) else if Wr.textOk l most then ((Wr.textRest l, false), Wr.textAt l, 0) else ((l, true), [], 140)
theorem Wr.textR_eq (l : List UInt8) (bad : Bool) (most : Int) : Wr.tried l (Wr.textRest l) bad (if most < 0 then 2 else 0) (Wr.textOk l most) = ((Wr.textR l bad most).1, (Wr.textR l bad most).2.2) := by
 unfold Wr.tried Wr.textR
 by_cases h : most < 0 <;> cases bad <;> cases Wr.textOk l most <;> simp [h]
theorem loadInt {b o : Nat} {x : Int} {W : World} (hc : W.cell? ⟨b, o, none⟩ = some (.int .i64 x)) : (Instr.loadAt 3 (.pointer (some ⟨b, o, none⟩))).run Tryz.prog W = .ok (.int .i64 x) W := by
 go_simp
theorem wtextR_mv (g : Nat) (l : List UInt8) (bad : Bool) (most : Int) (w : World) (A : Option Addr) (c : Nat) (hrow : Row w g 146 (rdC A l.length c true bad)) (hc : l.length <= c) (hcm : c <= 9223372036854775807) (hd : Rd w A l) :
  Calls Tryz.prog 38 #[.pointer (some ⟨g, 0, none⟩), .int .i64 most] w fun e w' => Same (fun k => k < w.heap.size /\ k ≠ g) w w' /\ e = .returned (.tuple #[.string ⟨(Wr.textR l bad most).2.1.toArray⟩, .int .i64 (Wr.textR l bad most).2.2]) /\ Moved w' g A l (Wr.textR l bad most).1.1 (Wr.textR l bad most).1.2 := by
 have k2 := ((Row.new w 80 #[.pointer (some ⟨g, 0, none⟩)]).alloc (.cells #[.int .i64 most] 3)).alloc (.cells #[.string ⟨#[]⟩] 9)
 have k3 := (Row.new (w.alloc (.cells #[.pointer (some ⟨g, 0, none⟩)] 80)) 3 #[.int .i64 most]).alloc (.cells #[.string ⟨#[]⟩] 9)
 have k4 := Row.new ((w.alloc (.cells #[.pointer (some ⟨g, 0, none⟩)] 80)).alloc (.cells #[.int .i64 most] 3)) 9 #[.string ⟨#[]⟩]
 have hb := (((Later.refl w).alloc (.cells #[.pointer (some ⟨g, 0, none⟩)] 80)).alloc (.cells #[.int .i64 most] 3)).alloc (.cells #[.string ⟨#[]⟩] 9)
 have hgl := hrow.lt
 have HRW := Lib.hid hrow
 clear hrow
 have htook : (Wr.took bad (if most < 0 then 2 else 0) (Wr.textOk l most) = true /\ (Wr.textR l bad most).2.1 = Wr.textAt l) \/ (Wr.took bad (if most < 0 then 2 else 0) (Wr.textOk l most) = false /\ (Wr.textR l bad most).2.1 = []) := by
  unfold Wr.took Wr.textR
  by_cases h : most < 0 <;> cases bad <;> cases Wr.textOk l most <;> simp [h]
 have hE := Wr.textR_eq l bad most
 generalize Wr.textR l bad most = R at *
 obtain ⟨⟨l', bad'⟩, v, no⟩ := R
 have HTO := Lib.hid htook
 have HE := Lib.hid hE
 clear htook hE
 go_enter Tryz.func38, Tryz.ntmps38
 go_upto_region 1 with fail
 simp only [World.size_alloc] at k3 k4
 obtain ⟨q2, hq2⟩ : ∃ q, q = w.heap.size := ⟨_, rfl⟩
 rw [<- hq2] at k2 k3 k4 ⊢
 have HQ := Lib.hid hq2
 clear hq2
 generalize ((w.alloc (.cells #[.pointer (some ⟨g, 0, none⟩)] 80)).alloc (.cells #[.int .i64 most] 3)).alloc (.cells #[.string ⟨#[]⟩] 9) = w1 at *
 have kg := HRW.out.later hb
 refine (wpIn_wide (n := 0)).1 ?_
 refine wpIn_region_last2 wide_wide [Pr.eq (.pointer (some ⟨g, 0, none⟩)), Pr.eq (.int .i64 most), Pr.eq (.int .i64 (if most < 0 then 2 else 0)), Pr.eq (.func (.func 83) #[] #[.pointer (some ⟨q2, 0, none⟩), .pointer (some ⟨q2 + 1, 0, none⟩), .pointer (some ⟨q2 + 1 + 1, 0, none⟩)])] (by kernel_rfl) (by kernel_rfl) (by kernel_rfl) (by kernel_rfl) (by kernel_rfl) (by kernel_rfl) rfl rfl (by kernel_rfl) ⟨?_, ?_, ?_, ?_, trivial⟩ ?_
 ·exact fun ac W hL he => stepOk_want rfl (op_load rfl (he.k 2) (loadPR (((k2.later hL).cell 0).trans rfl)) rfl)
 ·exact fun ac W hL he => stepOk_want rfl (op_load rfl (he.k 3) (loadInt (((k3.later hL).cell 0).trans rfl)) rfl)
 ·intro ac W hL he; refine stepOk_want rfl ?_; have e0 : ac.eval (.tmp 7) = .int .i64 most := (he.g 1 7); exact op_callF (vs := #[.int .i64 most]) rfl (by simp only [List.map_toArray, List.map_cons, List.map_nil, e0]) (enters_of Tryz.func82 (by kernel_rfl) rfl) ((bound_any most W).mono fun e W' ⟨hw', he'⟩ => ⟨_, he', hw' ▸ Later.refl _, rfl⟩)
 ·intro ac W hL he; refine stepOk_want rfl (op_makeFunc rfl ?_ rfl); simp only [List.map_toArray, List.map_cons, List.map_nil, (he.k 2), (he.k 3), (he.k 4)]; rfl
 ·intro xs W hL hx hk hg
  have e6 := hg 0 6 (by decide) (by kernel_rfl)
  have e8 := hg 2 8 (by decide) (by kernel_rfl)
  have e9 := hg 3 9 (by decide) (by kernel_rfl)
  have v6 : xs 0 = .pointer (some ⟨g, 0, none⟩) := hx 0 (by decide)
  have v8 : xs 2 = .int .i64 (if most < 0 then 2 else 0) := hx 2 (by decide)
  have v9 : xs 3 = .func (.func 83) #[] #[.pointer (some ⟨q2, 0, none⟩), .pointer (some ⟨q2 + 1, 0, none⟩), .pointer (some ⟨q2 + 1 + 1, 0, none⟩)] := hx 3 (by decide)
  rw [v6] at e6
  rw [v8] at e8
  rw [v9] at e9
  have k2 := k2.later hL
  have k3 := k3.later hL
  have k4 := k4.later hL
  have kg := kg.later hL
  have hb := hb.step hL
  have hq4 := k4.lt
  have hne : q2 + 1 + 1 ≠ g := by have := HQ.out; omega
  have hne2 : q2 ≠ g := by have := HQ.out; omega
  refine last2_callK (vs := #[.pointer (some ⟨g, 0, none⟩), .int .i64 (if most < 0 then 2 else 0), .func (.func 83) #[] #[.pointer (some ⟨q2, 0, none⟩), .pointer (some ⟨q2 + 1, 0, none⟩), .pointer (some ⟨q2 + 1 + 1, 0, none⟩)]]) rfl (by simp only [List.map_toArray, List.map_cons, List.map_nil, e6, e8, e9]) (enters_of Tryz.func81 (by kernel_rfl) rfl) rfl (fun _ => rfl) ?_
  have htry := try_moved g A l.length c l (Wr.textRest l) bad (if most < 0 then 2 else 0) _ #[.pointer (some ⟨q2, 0, none⟩), .pointer (some ⟨q2 + 1, 0, none⟩), .pointer (some ⟨q2 + 1 + 1, 0, none⟩)] W kg rfl hc hcm (q2 + 1 + 1) hq4 (fun W => Row W (q2 + 1 + 1) 9 #[.string ⟨#[]⟩]) (fun W => Row W (q2 + 1 + 1) 9 #[.string ⟨(Wr.textAt l).toArray⟩]) k4 (fun _ _ h hs => h.same hs ⟨hq4, hne⟩) (fun _ _ h hs => h.same hs ⟨hq4, hne⟩) (enters_of Tryz.func83 (by kernel_rfl) rfl _) (Wr.textOk l most) (fun hbad _ W1 hb1 => by
   subst hbad
   exact textFn_any g q2 (q2 + 1) (q2 + 1 + 1) _ _ _ A l.length c l most _ W1 rfl hc hcm (kg.later hb1) (hd.later (Later.step hb hb1)) (k2.later hb1) (k3.later hb1) (k4.later hb1) hne2 hne)
  rw [HE.out] at htry
  refine htry.mono ?_
  clear htry hx hg v6 v8 v9 e6 e8 e9
  rintro e w2 ⟨hs, rfl, hm, hR1, hR0⟩
  have k22 : Row w2 (q2 + 1 + 1) 9 #[.string ⟨v.toArray⟩] := by
   rcases HTO.out with ⟨h, h'⟩ | ⟨h, h'⟩
   ·have := hR1 h
    simp only at h'
    rw [h']
    exact this
   ·have := hR0 h
    simp only at h'
    rw [h']
    exact this
  clear hR1 hR0 k2 k3 k4 kg
  refine ⟨_, rfl, ?_⟩
  have c4 : w2.cell? ⟨q2 + 1 + 1, 0, none⟩ = some (.string ⟨v.toArray⟩) := (k22.cell 0).trans rfl
  have f4 : w2.frozen? ⟨q2 + 1 + 1, 0, none⟩ = false := k22.frozen 0
  have K2 := Lib.hid k22
  have HM := Lib.hid hm
  have HS := Lib.hid hs
  have HB := Lib.hid hb
  clear k22 hm hs hb
  simp only [init2, pen2, last2, putL, Nat.reduceAdd, Act.put, List.setIfInBounds_toArray, List.set_cons_succ, List.set_cons_zero]
  go_wp2_with fail
  have k5 := K2.out.set 0 (.string ⟨v.toArray⟩)
  have hcv : (w2.setCell ⟨q2 + 1 + 1, 0, none⟩ (.string ⟨v.toArray⟩)).cell? ⟨q2 + 1 + 1, 0, none⟩ = some (.string ⟨v.toArray⟩) := (k5.cell 0).trans rfl
  have hst := Same.set w2 ⟨q2 + 1 + 1, 0, none⟩ (.string ⟨v.toArray⟩)
  have hq := HQ.out
  have hs0 : Same (fun k => k < w.heap.size /\ k ≠ g) w (w2.setCell ⟨q2 + 1 + 1, 0, none⟩ (.string ⟨v.toArray⟩)) := (((Same.of_below HB.out).mono (fun k h => h.1)).trans (HS.out.mono (fun k h => ⟨Nat.lt_of_lt_of_le h.1 HB.out.size, h.2, by have := h.1; omega⟩))).trans (hst.mono (fun k h => by show k ≠ q2 + 1 + 1; have := h.1; omega))
  exact bodyPost_ret (v := .tuple #[.string ⟨v.toArray⟩, .int .i64 no]) (by simp [results, Tryz.results38, go_sem, hcv]) rfl ⟨hs0, rfl, (HM.out.far (p := ⟨q2 + 1 + 1, 0, none⟩) (fun e => hne e.symm) _)⟩
section
variable {P : Program} {Q : Exit -> Act -> World -> Prop}
theorem op_callFP {K : Act -> World -> Prop} {o : Oper} {a : Act} {W : World} {f : FuncId} {xs : Array Operand} {ts : Array TypeId} {vs : Array Value} (ho : o.op = .call { callee := .value (.func f), args := xs, argTypes := ts }) (hv : xs.map a.eval = vs) (eg : ∀ args w, (callFunc f args).run P w = .ok (.enter f args) w)
  (h : Calls P f vs W fun e W' => (∃ v, e = .returned v /\ K (a.put o.dst v) W') \/ (∃ p, e = .panicked p /\ Q (.panic p) a W')) : o.wp P a W K Q := by
 have hr : ((do let d <- resolve a.eval { callee := .value (.func f), args := xs, argTypes := ts } o.type; invoke d.target d.args) : Sem Next).run P W = .ok (.enter f vs) W := by
  simp [resolve, invoke, go_sem, hv, eg, Act.eval]
 unfold Oper.wp execOp
 simp only [ho]
 rw [hr]
 refine h.mono fun e W' h => ?_
 rcases h with ⟨v, he, hq⟩ | ⟨p, he, hq⟩
 ·subst he; exact hq
 ·subst he; exact hq
end
theorem loadHz {w : World} {g : Nat} {h : List UInt8} (hl : h.length <= 32) (hr : Row w g 25 (hC h)) : (Instr.loadAt 25 (.pointer (some ⟨g, 0, none⟩))).run Tryz.prog w = .ok (.agg (hC h)) w := by
 have := run_loadAt_mid (P := Tryz.prog) w g 0 25 (hC h).toList _ (hr.range 0 _ fun j v hv => by rw [Nat.zero_add, <- Array.getElem?_toList]; exact hv) Tryz.underlying25 rfl (by rw [Array.length_toList, hC_size h (by omega)]; exact infoH)
 rwa [Array.toArray_toList] at this
theorem whC_set (l : List UInt8) (h : 32 <= l.length) : setFrom (hC []) 0 ((l.take 32).map byteV) = hC (l.take 32) := by
 have hl : (l.take 32).length = 32 := by rw [List.length_take]; omega
 have := hC_copy [] (l.take 32) (by rw [hl]; decide)
 simpa using this
theorem hashFn_any (g q1 q2 : Nat) (T1 : TypeId) (A : Option Addr) (n c : Nat) (l : List UInt8) (w : World) (hn : l.length = n) (hc : n <= c) (hcm : c <= 9223372036854775807) (hr : Row w g 146 (rdC A n c true false)) (hd : Rd w A l)
  (k1 : Row w q1 T1 #[.pointer (some ⟨g, 0, none⟩)]) (k2 : Row w q2 25 (hC [])) (h1 : q1 ≠ g) (h2 : q2 ≠ g) (h21 : q1 ≠ q2) (hb2 : ∀ b o, A = some ⟨b, o, none⟩ -> l ≠ [] -> b ≠ q2) :
  Calls Tryz.prog 123 #[.pointer (some ⟨q2, 0, none⟩), .pointer (some ⟨q1, 0, none⟩)] w fun e w' => Same (fun k => k < w.heap.size /\ k ≠ g /\ k ≠ q2) w w' /\ ((decide (32 <= l.length) = true /\ e = .returned (.tuple #[]) /\ Row w' q2 25 (hC (l.take 32)) /\ Moved w' g A l (l.drop 32) false) \/ (decide (32 <= l.length) = false /\ e = .panicked lacksP /\ Row w' q2 25 (hC []) /\ ∃ D n' c', Row w' g 146 (rdC D n' c' true false))) := by
 have hid : ∀ w1, w.grownBy w1 (some g) -> Same (fun k => k < w.heap.size /\ k ≠ g /\ k ≠ q2) w w1 := fun w1 hg => (Same.of_grown hg).mono (fun k h => ⟨h.1, fun e => h.2.1 (Option.some.inj e)⟩)
 have HN := Lib.hid hn
 rw [hn]
 have HR := Lib.hid hr
 have HD := Lib.hid hd
 clear hn hr hd
 go_enter Tryz.func123, Tryz.ntmps123
 go_upto_region 0 with fail
 refine (wpIn_wide (n := 0)).1 ?_
 refine wpIn_region_lastY wide_wide (fun f xs W => w.grownBy W (some g) /\ (f 0 = true -> xs 0 = .slice (some ⟨q2, 0, none⟩) 32 32) /\ (f 1 = true -> xs 1 = .pointer (some ⟨g, 0, none⟩)) /\ (f 2 = true -> 32 <= n /\ xs 2 = .slice A 32 c /\ ∃ D, Row W g 146 (rdC D (n - 32) (c - 32) true false) /\ ∀ X, Rd X A l -> Rd X D (l.drop 32)) /\ (f 2 = false -> Row W g 146 (rdC A n c true false))) ⟨grown_drew (grown_refl w _), by simp, by simp, by simp, fun _ => HR.out.drew⟩ (by kernel_rfl) (by kernel_rfl) (by kernel_rfl) (by kernel_rfl) (by kernel_rfl) (by kernel_rfl) rfl ⟨?_, ?_, ?_, trivial⟩ ?_
 ·intro a W f xs hI he
  refine stepOkY_later rfl ?_ (op_slice (R := fun v W' => v = .slice (some ⟨q2, 0, none⟩) 32 32) (W' := W) rfl (he.k 0) rfl rfl rfl (sliceHash W) rfl)
  rintro v W' hL rfl
  obtain ⟨hg, i0, i1, i2, i3⟩ := hI
  refine ⟨grown_trans hg (grown_weak hL g), ?_, ?_, ?_, ?_⟩
  ·intro _; rfl
  ·intro h; exact i1 h
  ·intro h
   obtain ⟨a1, a2, D, a3, a4⟩ := i2 h
   exact ⟨a1, a2, D, a3.later hL, a4⟩
  ·intro h; exact (i3 h).later hL
 ·intro a W f xs hI he
  obtain ⟨hg, i0, i1, i2, i3⟩ := hI
  have k11 := k1.grown hg (fun e => h1 (Option.some.inj e))
  refine stepOkY_later rfl ?_ (op_load (R := fun v W' => v = .pointer (some ⟨g, 0, none⟩)) rfl (he.k 1) (loadPR ((k11.cell 0).trans rfl)) rfl)
  rintro v W' hL rfl
  refine ⟨grown_trans hg (grown_weak hL g), ?_, ?_, ?_, ?_⟩
  ·intro h; exact i0 h
  ·intro _; rfl
  ·intro h
   obtain ⟨a1, a2, D, a3, a4⟩ := i2 h
   exact ⟨a1, a2, D, a3.later hL, a4⟩
  ·intro h; exact (i3 h).later hL
 ·intro a W f xs hI he
  obtain ⟨hg, i0, i1, i2, i3⟩ := hI
  have hf2 : f 2 = false := he.todo
  have hf1 : f 1 = true := he.done 1 (by kernel_rfl)
  have e1 : a.eval (.tmp 3) = .pointer (some ⟨g, 0, none⟩) := (he.v 1 3).trans (i1 hf1)
  have hrow := i3 hf2
  have hrd : Rd W A l := HD.out.grown_g HR.out hg
  refine stepOkY_want rfl (op_callFP (vs := #[.pointer (some ⟨g, 0, none⟩), .int .i64 ((32 : Nat) : Int)]) rfl (by simp only [List.map_toArray, List.map_cons, List.map_nil, show a.eval (.const (.int .i64 32)) = .int .i64 ((32 : Nat) : Int) from rfl, e1]) (enters_of Tryz.func86 (by kernel_rfl) rfl) ?_)
  refine (rtake_any g A n c false l 32 W HN.out hc hcm (by decide) hrow hrd).mono ?_
  rintro e W' (⟨h32, rfl, ⟨D, hD, hDr⟩, hg2⟩ | ⟨h32, rfl, rfl⟩)
  ·refine .inl ⟨_, rfl, _, rfl, ?_⟩
   refine ⟨grown_trans hg hg2, ?_, ?_, ?_, ?_⟩
   ·intro h; exact i0 h
   ·intro h; exact i1 h
   ·intro _; exact ⟨h32, rfl, D, hD, hDr⟩
   ·intro h; cases h
  ·exact .inr ⟨_, rfl, he.defers, hid _ hg, .inr ⟨decide_eq_false (by omega), rfl, k2.grown hg (fun e => h2 (Option.some.inj e)), A, n, c, hrow⟩⟩
 ·intro f xs W hI hd _ hk hgt
  obtain ⟨hg, i0, i1, i2, i3⟩ := hI
  have v0 := i0 (hd 0 (by decide))
  obtain ⟨h32, v2, D, hD, hDr⟩ := i2 (hd 2 (by decide))
  have e0 := hgt 0 2 (by decide) (by kernel_rfl)
  have e2 := hgt 2 4 (by decide) (by kernel_rfl)
  rw [v0] at e0
  rw [v2] at e2
  have k21 := k2.grown hg (fun e => h2 (Option.some.inj e))
  have hrd : Rd W A l := HD.out.grown_g HR.out hg
  have hnn := HN.out
  refine ⟨op_copy_rd (.tmp 2) (.tmp 4) 60 60 rfl 5 Tryz.underlying60 (by kernel_rfl) q2 0 32 32 A 32 c (l.take 32) (by rw [List.length_take]; omega) (Rd.take hrd 32) e0 e2 _ _ k21 32 (by decide) (by rw [hC_size _ (by decide)]; decide) ?_⟩
  intro W' hrow' hg'
  rw [show (l.take 32).take 32 = l.take 32 by rw [List.take_take]; rfl, whC_set l (by omega)] at hrow'
  have hs3 : Same (fun k => k < w.heap.size /\ k ≠ g /\ k ≠ q2) w W' := (hid _ hg).trans ((Same.of_grown hg').mono (fun k h => ⟨Nat.lt_of_lt_of_le h.1 hg.size, fun e => h.2.2 (Option.some.inj e)⟩))
  have hD' := hD.grown hg' (fun e => h2 (Option.some.inj e).symm)
  have hl3 : (l.drop 32).length = n - 32 := by rw [List.length_drop, hnn]
  refine ⟨rfl, _, results_none rfl _ _ _, hs3, .inl ⟨decide_eq_true h32, rfl, hrow', D, c - 32, by rw [hl3]; exact hD', by rw [hl3]; omega, by omega, hDr⟩⟩
def Wr.hashR (l : List UInt8) (bad : Bool) : (List UInt8 × Bool) × List UInt8 × Int :=
 if bad then ((l, true), [], 140) else if 32 <= l.length then ((l.drop 32, false), l.take 32, 0) else ((l, true), [], 140)
theorem Wr.hashR_eq (l : List UInt8) (bad : Bool) : Wr.tried l (l.drop 32) bad 0 (decide (32 <= l.length)) = ((Wr.hashR l bad).1, (Wr.hashR l bad).2.2) := by
 unfold Wr.tried Wr.hashR
 by_cases h : 32 <= l.length <;> cases bad <;> simp [h]
theorem Wr.hashR_len (l : List UInt8) (bad : Bool) : (Wr.hashR l bad).2.1 = [] \/ (Wr.hashR l bad).2.1.length = 32 := by
 unfold Wr.hashR
 by_cases h : 32 <= l.length <;> cases bad <;> simp [h]
theorem hash_mv (g : Nat) (l : List UInt8) (bad : Bool) (w : World) (A : Option Addr) (c : Nat) (hrow : Row w g 146 (rdC A l.length c true bad)) (hc : l.length <= c) (hcm : c <= 9223372036854775807) (hd : Rd w A l) :
  Calls Tryz.prog 79 #[.pointer (some ⟨g, 0, none⟩)] w fun e w' => Same (fun k => k < w.heap.size /\ k ≠ g) w w' /\ e = .returned (.tuple #[.agg (hC (Wr.hashR l bad).2.1), .int .i64 (Wr.hashR l bad).2.2]) /\ Moved w' g A l (Wr.hashR l bad).1.1 (Wr.hashR l bad).1.2 := by
 have hmf : ∀ (fn : Fn) (first cap : Array Value) (w : World), (Instr.makeFunc fn first cap).run Tryz.prog w = .ok (.func fn first cap) w := fun _ _ _ _ => rfl
 have k1 := (Row.new w 80 #[.pointer (some ⟨g, 0, none⟩)]).alloc (.cells (hC []) 25)
 have k2 := Row.new (w.alloc (.cells #[.pointer (some ⟨g, 0, none⟩)] 80)) 25 (hC [])
 have kg := (hrow.alloc (.cells #[.pointer (some ⟨g, 0, none⟩)] 80)).alloc (.cells (hC []) 25)
 have hb := below_new2 w (.cells #[.pointer (some ⟨g, 0, none⟩)] 80) (.cells (hC []) 25)
 have hgl := hrow.lt
 have hAl : ∀ b o, A = some ⟨b, o, none⟩ -> l ≠ [] -> b < w.heap.size := fun b o e h => hd.lt e h
 have HRW := Lib.hid hrow
 clear hrow
 have hvl := Wr.hashR_len l bad
 have htook : (Wr.took bad 0 (decide (32 <= l.length)) = true /\ (Wr.hashR l bad).2.1 = l.take 32) \/ (Wr.took bad 0 (decide (32 <= l.length)) = false /\ (Wr.hashR l bad).2.1 = []) := by
  unfold Wr.took Wr.hashR
  by_cases h : 32 <= l.length <;> cases bad <;> simp [h]
 have hE := Wr.hashR_eq l bad
 generalize Wr.hashR l bad = R at *
 obtain ⟨⟨l', bad'⟩, v, no⟩ := R
 have hvl32 : v.length <= 32 := by rcases hvl with h | h; · { simp only at h; rw [h]; decide }; · { simp only at h; omega }
 have HVL := Lib.hid hvl32
 have HTO := Lib.hid htook
 have HE := Lib.hid hE
 clear htook hE hvl hvl32
 go_enter Tryz.func79, Tryz.ntmps79
 go_upto_region 1 with (first
  | (with_reducible refine wpList_alloc rfl 25 rfl (allocH _) ?_)
  | fail)
 simp only [World.size_alloc] at k2 ⊢
 obtain ⟨q1, hq1⟩ : ∃ q, q = w.heap.size := ⟨_, rfl⟩
 rw [<- hq1] at k1 k2 ⊢
 have HQ := Lib.hid hq1
 clear hq1
 generalize (w.alloc (.cells #[.pointer (some ⟨g, 0, none⟩)] 80)).alloc (.cells (hC []) 25) = w1 at *
 have c1 : w1.cell? ⟨q1, 0, none⟩ = some (.pointer (some ⟨g, 0, none⟩)) := (k1.cell 0).trans rfl
 have hq2l := k2.lt
 have hne : q1 + 1 ≠ g := by have := HQ.out; omega
 have htry := try_moved g A l.length c l (l.drop 32) bad 0 _ #[.pointer (some ⟨q1 + 1, 0, none⟩), .pointer (some ⟨q1, 0, none⟩)] w1 kg rfl hc hcm (q1 + 1) hq2l (fun W => Row W (q1 + 1) 25 (hC [])) (fun W => Row W (q1 + 1) 25 (hC (l.take 32))) k2 (fun _ _ h hs => h.same hs ⟨hq2l, hne⟩) (fun _ _ h hs => h.same hs ⟨hq2l, hne⟩) (enters_of Tryz.func123 (by kernel_rfl) rfl _) (decide (32 <= l.length)) (fun hbad _ W1 hb1 => by
  subst hbad
  exact hashFn_any g q1 (q1 + 1) _ A l.length c l W1 rfl hc hcm (kg.later hb1) (hd.later (Later.step hb hb1)) (k1.later hb1) (k2.later hb1) (by have := HQ.out; omega) hne (by omega) (fun b o e h => by have := hAl b o e h; have := HQ.out; omega))
 rw [HE.out] at htry
 go_upto_region 2 with (first
  | (go_at_call 81; refine htry.mono ?_; clear htry; rintro e w2 ⟨hs, rfl, hm, hR1, hR0⟩)
  | fail)
 have k22 : Row w2 (q1 + 1) 25 (hC v) := by
  rcases HTO.out with ⟨h, h'⟩ | ⟨h, h'⟩
  ·have := hR1 h
   rw [h']
   exact this
  ·have := hR0 h
   rw [h']
   exact this
 have hld := loadHz HVL.out k22
 obtain ⟨w3, hst, k23, hg3⟩ := storeH (b := v) HVL.out HVL.out k22
 have HM := Lib.hid hm
 have HS := Lib.hid hs
 clear hm hs hR1 hR0
 go_wp2_with (first
  | (refine wpList_load rfl 25 (.tmp 2) rfl (.pointer (some ⟨q1 + 1, 0, none⟩)) rfl hld ?_)
  | (refine wpList_store rfl 25 (.tmp 2) (.tmp 7) rfl (.pointer (some ⟨q1 + 1, 0, none⟩)) (.agg (hC v)) rfl rfl hst ?_)
  | fail)
 have hq := HQ.out
 have hs0 : Same (fun k => k < w.heap.size /\ k ≠ g) w w3 := (((Same.of_below hb).mono (fun k h => h.1)).trans (HS.out.mono (fun k h => ⟨Nat.lt_of_lt_of_le h.1 hb.size, h.2, by have := h.1; omega⟩))).trans ((Same.of_grown hg3).mono (fun k h => ⟨Nat.lt_of_lt_of_le h.1 (Nat.le_trans hb.size HS.out.size), fun e => by have := Option.some.inj e; have := h.1; omega⟩))
 have hmv : Moved w3 g A l l' bad' := HM.out.same (Same.of_grown hg3) ⟨Nat.lt_of_lt_of_le hgl (Nat.le_trans hb.size HS.out.size), fun e => hne (Option.some.inj e).symm⟩
 exact bodyPost_ret (results_cell_tmp rfl _ _ (q1 + 1) 25 (hC v) (0, 0) _ (.int .i64 no) rfl rfl k23 Tryz.underlying25 rfl (by rw [hC_size _ HVL.out]; exact infoH)) rfl ⟨hs0, rfl, hmv⟩
section
variable {P : Program} {Q : Exit -> Act -> World -> Prop}
structure EnvP (ops : Array Oper) (a0 : Act) (p : Nat) (c : Nat -> Value) (A : World -> Prop) (B : Value -> World -> Prop) (i : Nat) (a : Act) (W : World) (d : Bool) (x : Value) : Prop where
 keep : ∀ y, keepsB ops i y = true -> a.eval y = a0.eval y
 val : ∀ j t, waits ops i j = true -> dstOf ops j = some t -> (j == p) = false -> a.eval (.tmp t) = c j
 piv : ∀ t, waits ops i p = true -> dstOf ops p = some t -> a.eval (.tmp t) = x
 ahead : d = false -> A W
 behind : d = true -> B x W
 waits : waits ops i p = true -> d = true
 defers : a.defers = a0.defers
theorem EnvP.v {ops : Array Oper} {a0 : Act} {p : Nat} {c : Nat -> Value} {A : World -> Prop} {B : Value -> World -> Prop} {i : Nat} {a : Act} {W : World} {d : Bool} {x : Value} (h : EnvP ops a0 p c A B i a W d x) (j t : Nat) (h1 : Go.Proofs.YtloiaaolnfimgaaGreat.waits ops i j = true := by kernel_rfl) (h2 : dstOf ops j = some t := by exact rfl) (h3 : (j == p) = false := by exact rfl) : a.eval (.tmp t) = c j := h.val j t h1 h2 h3
theorem EnvP.k {ops : Array Oper} {a0 : Act} {p : Nat} {c : Nat -> Value} {A : World -> Prop} {B : Value -> World -> Prop} {i : Nat} {a : Act} {W : World} {d : Bool} {x : Value} (h : EnvP ops a0 p c A B i a W d x) (t : Nat) (h1 : keepsB ops i (.tmp t) = true := by kernel_rfl) : a.eval (.tmp t) = a0.eval (.tmp t) := h.keep _ h1
theorem EnvP.both {ops : Array Oper} {a0 : Act} {p : Nat} {c : Nat -> Value} {A : World -> Prop} {B : Value -> World -> Prop} {i : Nat} {a : Act} {W : World} {d : Bool} {x : Value} (he : EnvP ops a0 p c A B i a W d x) {C : World -> Prop} (hA : ∀ W, A W -> C W) (hB : ∀ x W, B x W -> C W) : C W := by
 cases d
 ·exact hA _ (he.ahead rfl)
 ·exact hB _ _ (he.behind rfl)
def PivStep (P : Program) (ops : Array Oper) (Q : Exit -> Act -> World -> Prop) (a0 : Act) (p : Nat) (c : Nat -> Value) (A : World -> Prop) (B : Value -> World -> Prop) (i : Nat) (o : Oper) : Prop :=
 match i == p with
 | true => ∀ a W, EnvP ops a0 p c A B i a W false undef -> A W -> o.guard = none /\ o.wp P a W (fun a' W' => ∃ v, a' = a.put o.dst v /\ B v W') Q
 | false => ∀ a W d x, EnvP ops a0 p c A B i a W d x -> StepOk P ops Q o a W (fun v W' => v = c i)
theorem wpIn_region_pivot {F : Fence} (hF : Wide F) {n : Nat} {id : Nat} {o : Oper} {os : List Oper} {a0 : Act} {w : World} (p : Nat) (cs : List Value) (A : World -> Prop) (B : Value -> World -> Prop) (hA : ∀ W W', Later W W' -> A W -> A W') (hB : ∀ x W W', Later W W' -> B x W -> B x W') (hA0 : A w) (hm : P.follows .mixedOrders = true) (hp : plainAll (o :: os).toArray = true) (hd : dstsB (o :: os).toArray = true) (hb : backB (o :: os).toArray = true) (ha : ancB (o :: os).toArray = true) (hin : dstIn (o :: os).toArray a0.tmps.size = true) (hg : (lastL o os).guard = none) (hpl : decide (p < (initL o os).length) = true) (hself : waits (o :: os).toArray p p = false)
  (step : AllFrom (PivStep P (o :: os).toArray Q a0 p (fun i => cs.getD i undef) A B) 0 (initL o os))
  (fin : ∀ xs W x, B x W -> (∀ j, j < (initL o os).length -> xs j = if j = p then x else cs.getD j undef) -> (∀ y, keepsB (o :: os).toArray (initL o os).length y = true -> (putL (initL o os) 0 xs a0).eval y = a0.eval y) -> (∀ j t, j < (initL o os).length -> dstOf (o :: os).toArray j = some t -> (putL (initL o os) 0 xs a0).eval (.tmp t) = xs j) ->
   LastOk P (lastL o os) (putL (initL o os) 0 xs a0) W Q) : (Code.region id (o :: os).toArray true).wpIn F n P Q a0 w := by
 have hpl' := of_decide_eq_true hpl
 refine wpIn_region_lastY hF (fun f xs W => (∀ i, f i = true -> i ≠ p -> xs i = cs.getD i undef) /\ (f p = false -> A W) /\ (f p = true -> B (xs p) W)) ⟨fun i h => by simp at h, fun _ => hA _ _ ((Later.refl w).drew) hA0, fun h => by simp at h⟩ hm hp hd hb ha hin hg ?_ ?_
 ·have key : ∀ (l : List Oper) (i : Nat), AllFrom (PivStep P (o :: os).toArray Q a0 p (fun i => cs.getD i undef) A B) i l -> AllFrom (fun i o' => ∀ a W f xs, ((∀ i, f i = true -> i ≠ p -> xs i = cs.getD i undef) /\ (f p = false -> A W) /\ (f p = true -> B (xs p) W)) -> EnvY (o :: os).toArray a0 f i a xs -> StepOkY P (o :: os).toArray Q o' a W (fun v W' => (∀ j, updB f i j = true -> j ≠ p -> upd xs i v j = cs.getD j undef) /\ (updB f i p = false -> A W') /\ (updB f i p = true -> B (upd xs i v p) W'))) i l := by
   intro l
   induction l with
   | nil => intro i h; exact h
   | cons o' l ih =>
    intro i h
    obtain ⟨h1, h2⟩ := h
    refine ⟨fun a W f xs hI he => ?_, ih _ h2⟩
    obtain ⟨hc, ha1, hb1⟩ := hI
    by_cases hip : i = p
    ·subst hip
     have h3 : ∀ a W, EnvP (o :: os).toArray a0 i (fun i => cs.getD i undef) A B i a W false undef -> A W -> o'.guard = none /\ o'.wp P a W (fun a' W' => ∃ v, a' = a.put o'.dst v /\ B v W') Q := by
      unfold PivStep at h1
      rw [beq_self_eq_true] at h1
      exact h1
     have hf := he.todo
     obtain ⟨hg', h4⟩ := h3 a W ⟨he.keep, fun j t hw ht hj => (he.val j t hw ht).trans (hc j (he.done j hw) (by simpa using hj)), fun t hw _ => (by rw [hself] at hw; cases hw), fun _ => ha1 hf, (by intro h; cases h), (by intro hw; rw [hself] at hw; cases hw), he.defers⟩ (ha1 hf)
     refine stepOkY_want hg' (Oper.wp_mono (fun a' W' ⟨v, e, hv⟩ => ⟨v, e, fun j hj hjp => ?_, fun h => ?_, fun _ => ?_⟩) h4)
     ·rw [upd_ne xs v hjp]
      refine hc j ?_ hjp
      simpa [updB, hjp] using hj
     ·simp [updB] at h
     ·rw [upd_self]; exact hv
    ·have h3 : ∀ a W d x, EnvP (o :: os).toArray a0 p (fun i => cs.getD i undef) A B i a W d x -> StepOk P (o :: os).toArray Q o' a W (fun v W' => v = cs.getD i undef) := by
      unfold PivStep at h1
      rw [show (i == p) = false by simpa using hip] at h1
      exact h1
     have h4 := h3 a W (f p) (xs p) ⟨he.keep, fun j t hw ht hj => (he.val j t hw ht).trans (hc j (he.done j hw) (by simpa using hj)), fun t hw ht => he.val p t hw ht, ha1, hb1, fun hw => he.done p hw, he.defers⟩
     have hpi : p ≠ i := fun e => hip e.symm
     have hR : ∀ v W', Later W W' -> v = cs.getD i undef -> (∀ j, updB f i j = true -> j ≠ p -> upd xs i v j = cs.getD j undef) /\ (updB f i p = false -> A W') /\ (updB f i p = true -> B (upd xs i v p) W') := fun v W' hL hv => by
      refine ⟨fun j hj hjp => ?_, fun h => ?_, fun h => ?_⟩
      ·by_cases e : j = i
       ·subst e; rw [upd_self]; exact hv
       ·rw [upd_ne xs v e]
        exact hc j (by simpa [updB, e] using hj) hjp
      ·exact hA _ _ hL (ha1 (by simpa [updB, hpi] using h))
      ·rw [upd_ne xs v hpi]
       exact hB _ _ _ hL (hb1 (by simpa [updB, hpi] using h))
     unfold StepOk at h4
     unfold StepOkY
     split
     ·rename_i hw
      rw [if_pos hw] at h4
      exact Oper.wp_mono (fun a' W' ⟨v, e, hL, hv⟩ => ⟨v, e, hR v W' hL hv⟩) h4
     ·rename_i hw
      rw [if_neg hw] at h4
      exact hR _ _ (Later.refl W) h4
  exact key _ _ step
 ·intro f xs W hI hall _ hk hget
  obtain ⟨hc, _, hb1⟩ := hI
  refine fin xs W (xs p) (hb1 (hall p hpl')) (fun j hj => ?_) hk hget
  by_cases e : j = p
  ·rw [if_pos e, e]
  ·rw [if_neg e]; exact hc j (hall j hj) e
end
def RdV (w : World) (A : Option Addr) (vs : List Value) : Prop :=
 vs ≠ [] -> ∃ b o, A = some ⟨b, o, none⟩ /\ ∀ i (h : i < vs.length), w.cell? ⟨b, o + i, none⟩ = some vs[i]
theorem RdV.nil (w : World) (A : Option Addr) : RdV w A [] := fun h => absurd rfl h
theorem RdV.keep {w w' : World} {A : Option Addr} {vs : List Value} (h : RdV w A vs) (hk : ∀ b, (∃ o, A = some ⟨b, o, none⟩) -> vs ≠ [] -> b < w.heap.size -> w'.heap[b]? = w.heap[b]?) : RdV w' A vs := fun hl => by
 obtain ⟨b, o, e, hc⟩ := h hl
 have hb : b < w.heap.size := block_lt_of_cell (hc 0 (List.length_pos_iff.2 hl))
 exact ⟨b, o, e, fun i hi => (World.cell?_of_block (w := w) (a := ⟨b, o + i, none⟩) (hk b ⟨o, e⟩ hl hb)).trans (hc i hi)⟩
theorem RdV.below {w w' : World} {A : Option Addr} {vs : List Value} (h : RdV w A vs) (hb : Below w.heap.size w w') : RdV w' A vs := h.keep fun b _ _ hl => hb.block b hl
theorem RdV.later {w w' : World} {A : Option Addr} {vs : List Value} (h : RdV w A vs) (hb : Later w w') : RdV w' A vs := h.below hb
theorem RdV.same {p : Nat -> Prop} {w w' : World} {A : Option Addr} {vs : List Value} (h : RdV w A vs) (hs : Same p w w') (hp : ∀ b o, A = some ⟨b, o, none⟩ -> vs ≠ [] -> b < w.heap.size -> p b) : RdV w' A vs := h.keep fun b ⟨o, e⟩ hl hb => hs.block b (hp b o e hl hb)
theorem RdV.at_ {w : World} {A : Option Addr} {vs : List Value} (h : RdV w A vs) {k : Nat} (hk : k < vs.length) : ∃ b o, A = some ⟨b, o, none⟩ /\ w.cell? ⟨b, o + k, none⟩ = some vs[k] := by
 obtain ⟨b, o, e, hc⟩ := h (by intro e; subst e; simp at hk)
 exact ⟨b, o, e, hc k hk⟩
theorem RdV.row {w : World} {g : Nat} {t : TypeId} {vs : List Value} (h : Row w g t vs.toArray) : RdV w (some ⟨g, 0, none⟩) vs := fun _ =>
 ⟨g, 0, rfl, fun i hi => by rw [h.cell, Nat.zero_add, List.getElem?_toArray, List.getElem?_eq_getElem hi]⟩
structure IsWr (w : World) (g : Nat) (r : Option Nat) (l : List UInt8) : Prop where
 ex : ∃ v, Row w g 169 #[v, .bool true] /\ Own 5 w 0 v l /\ v.ownBlock = r /\ r ≠ some g
def Wrote (w w' : World) (g : Nat) (r r' : Option Nat) : Prop := Same (fun j => j < w.heap.size /\ j ≠ g /\ some j ≠ r) w w' /\ ∀ k, r' = some k -> r = some k \/ w.heap.size <= k
theorem Wrote.refl (w : World) (g : Nat) (r : Option Nat) : Wrote w w g r r := ⟨Same.refl _ _, fun k h => .inl h⟩
theorem Own.shape {U : TypeId} {w : World} {base : Nat} {v : Value} {l : List UInt8} (h : Own U w base v l) : ∃ A n c, v = .slice A n c := by
 obtain ⟨A, c, e, _⟩ := h.slice
 exact ⟨A, _, c, e⟩
abbrev numV (n : Int) : Value := .int .i64 n
def Wr.nums (l : List Int) : List UInt8 := l.flatMap Wr.nb
def RdH (w : World) (A : Option Addr) (hs : List (List UInt8)) : Prop :=
 hs ≠ [] -> ∃ b o, A = some ⟨b, o, none⟩ /\ ∀ i (h : i < hs.length), w.rangeAt b (o + i * 32) (hC hs[i]).toList
theorem loadSl {b o : Nat} {A : Option Addr} {n c : Nat} {W : World} (hc : W.cell? ⟨b, o, none⟩ = some (.slice A n c)) : (Instr.loadAt 60 (.pointer (some ⟨b, o, none⟩))).run Tryz.prog W = .ok (.slice A n c) W := by
 go_simp
theorem refHigh_any (n k : Nat) (w : World) (hk : k <= 8) (hn : n < 9223372036854775808) :
  Calls Tryz.prog 112 #[.int .i64 (n : Int), .int .i64 (k : Int)] w fun e w' => ∃ v', e = .returned v' /\ Own 5 w' w.heap.size v' (Wr.be k n) /\ Later w w' := by
 go_enter Tryz.func112, Tryz.ntmps112
 go_wp2_with fail
 go_loopw [5, 6] (fun u t wr => ∃ i : Nat, i <= k /\ t = .int .i64 ((k : Int) - 1 - (i : Int)) /\ Own 5 wr w.heap.size u ((Wr.be k n).take i) /\ Later w wr) (fun u t _ => (intOf t + 1).toNat)
 case atStart => exact ⟨0, by omega, by simp, by simpa using Own.nil _ _ _, Later.refl _⟩
 case round =>
  obtain ⟨i, hi, rfl, hown, hL⟩ := hrel
  by_cases hlt : i < k
  ·obtain ⟨j, hj⟩ : ∃ j : Nat, j = k - 1 - i := ⟨_, rfl⟩
   have hji : ((k : Int) - 1 - (i : Int)) = (j : Int) := by omega
   rw [hji]
   have hd : decide ((0 : Int) <= (j : Int)) = true := decide_eq_true (by omega)
   have hbyte : ((n : Int) / 2 ^ (8 * j)).tmod 256 % 256 = ((Wr.at_ n k i).toNat : Int) := by
    unfold Wr.at_
    rw [UInt8.toNat_ofNat', <- hj, Int.tmod_eq_emod_of_nonneg (Int.ediv_nonneg (by omega) (Int.le_of_lt (Int.pow_pos (by decide))))]
    simp
   have hj8 : j < 8 := by omega
   have HJ := Lib.hid hj
   clear hj hji
   have hll : ((Wr.be k n).take i).length <= 8 := by rw [List.length_take, Wr.be_len]; omega
   have hnx : (Wr.be k n).take (i + 1) = (Wr.be k n).take i ++ [Wr.at_ n k i] := Wr.be_take k n i hlt
   have HNX := Lib.hid hnx
   clear hnx
   go_wp2_with (first
    | (at_builtin; refine wpList_append_bytes rfl (.tmp 13) (.tmp 21) 60 rfl w.heap.size 5 Tryz.underlying60 byteInfo _ _ rfl (hown.alloc _) (some ⟨wr.heap.size, 0, none⟩) 1 1 [Wr.at_ n k i] rfl rfl (Rd.byte1 rfl) (by omega) (by simp only [World.size_alloc]; have := hL.size; omega) ?_; intro v' w' hown' hg' hat'; obtain ⟨A', n', c', rfl⟩ := hown'.shape)
    | fail)
   go_roundw
   case rel => exact ⟨i + 1, by omega, by have := HJ.out; go_num, by rw [HNX.out]; exact hown', (hL.alloc _).grown hg' (by have := hL.size; simp only [World.size_alloc]; omega) (fun q e => (hown.at_ q e).1)⟩
   case measure => have := HJ.out; simp [intOf]
  ·obtain rfl : i = k := by omega
   have hd : decide ((0 : Int) <= (i : Int) - 1 - (i : Int)) = false := decide_eq_false (by omega)
   rw [List.take_of_length_le (by rw [Wr.be_len]; exact Nat.le_refl _)] at hown
   go_wp2_with fail
   go_ret
   exact ⟨_, rfl, hown, hL⟩
theorem own1 (w : World) (x : Value) (c : UInt8) (hx : x = byteV c) : Own 5 (w.alloc (.cells #[x] 5)) w.heap.size (.slice (some ⟨w.heap.size, 0, none⟩) 1 1) [c] := by
 subst hx
 exact ⟨rfl, .inr ⟨_, 1, _, rfl, Nat.le_refl _, heap_alloc_new w _, Nat.le_refl _, by decide, rfl, rfl⟩⟩
theorem refNumber_any (n : Nat) (w : World) (hn : n < 9223372036854775808) :
  Calls Tryz.prog 63 #[.int .i64 (n : Int)] w fun e w' => ∃ v', e = .returned v' /\ Own 5 w' w.heap.size v' (Wr.bytes n) /\ Later w w' := by
 by_cases h1 : n < 253
 ·have hd : decide ((n : Int) < 253) = true := decide_eq_true (by omega)
  have hd' : decide (n < 253) = true := decide_eq_true (by omega)
  have hb : Wr.bytes n = [UInt8.ofNat n] := by rw [Wr.bytes, if_pos h1]
  rw [hb]
  have HB := Lib.hid hb
  clear hb
  go_enter Tryz.func63, Tryz.ntmps63
  go_wp2_with fail
  go_ret
  refine ⟨_, rfl, own1 w _ (UInt8.ofNat n) ?_, (Later.refl w).alloc _⟩
  rw [show byteV (UInt8.ofNat n) = .int .u8 (((UInt8.ofNat n).toNat : Nat) : Int) from rfl, UInt8.toNat_ofNat']
  first | rfl | (congr 1; omega)
 have hd : decide ((n : Int) < 253) = false := decide_eq_false (by omega)
 have hd' : decide (n < 253) = false := decide_eq_false (by omega)
 by_cases h2 : n < 65536
 ·have hd2 : decide ((n : Int) < 65536) = true := decide_eq_true (by omega)
  have hd2' : decide (n < 65536) = true := decide_eq_true (by omega)
  have hb : Wr.bytes n = [253] ++ Wr.be 2 n := by rw [Wr.bytes, if_neg h1, if_pos h2]; rfl
  rw [hb]
  clear hb
  have hhi := fun W => refHigh_any n 2 W (by decide) hn
  go_enter Tryz.func63, Tryz.ntmps63
  go_wp2_with (first
   | (go_at_call 112; refine (hhi _).mono ?_; clear hhi; rintro e w1 ⟨v1, rfl, hown1, hL1⟩; obtain ⟨A1, c1, rfl, hc1, _, hrd1⟩ := hown1.slice; rw [Wr.be_len] at hc1 ⊢)
   | (at_builtin; refine wpList_append_bytes rfl (.tmp 12) (.tmp 14) 60 rfl w.heap.size 5 Tryz.underlying60 byteInfo _ _ rfl ((own1 w _ 253 rfl).later hL1) A1 2 c1 (Wr.be 2 n) rfl (Wr.be_len 2 n) hrd1 (by decide) (by have := hL1.size; simp only [World.size_alloc] at this; omega) ?_; intro v' w' hown' hg' hat'; obtain ⟨A', n', c', rfl⟩ := hown'.shape)
   | fail)
  go_ret
  exact ⟨_, rfl, hown', (((Later.refl w).alloc _).step hL1).grown hg' (by have := hL1.size; simp only [World.size_alloc] at this; omega) (fun q e => by cases e; exact Nat.le_refl _)⟩
 have hd2 : decide ((n : Int) < 65536) = false := decide_eq_false (by omega)
 have hd2' : decide (n < 65536) = false := decide_eq_false (by omega)
 by_cases h3 : n < 4294967296
 ·have hd3 : decide ((n : Int) < 4294967296) = true := decide_eq_true (by omega)
  have hd3' : decide (n < 4294967296) = true := decide_eq_true (by omega)
  have hb : Wr.bytes n = [254] ++ Wr.be 4 n := by rw [Wr.bytes, if_neg h1, if_neg h2, if_pos h3]; rfl
  rw [hb]
  clear hb
  have hhi := fun W => refHigh_any n 4 W (by decide) hn
  go_enter Tryz.func63, Tryz.ntmps63
  go_wp2_with (first
   | (go_at_call 112; refine (hhi _).mono ?_; clear hhi; rintro e w1 ⟨v1, rfl, hown1, hL1⟩; obtain ⟨A1, c1, rfl, hc1, _, hrd1⟩ := hown1.slice; rw [Wr.be_len] at hc1 ⊢)
   | (at_builtin; refine wpList_append_bytes rfl (.tmp 19) (.tmp 21) 60 rfl w.heap.size 5 Tryz.underlying60 byteInfo _ _ rfl ((own1 w _ 254 rfl).later hL1) A1 4 c1 (Wr.be 4 n) rfl (Wr.be_len 4 n) hrd1 (by decide) (by have := hL1.size; simp only [World.size_alloc] at this; omega) ?_; intro v' w' hown' hg' hat'; obtain ⟨A', n', c', rfl⟩ := hown'.shape)
   | fail)
  go_ret
  exact ⟨_, rfl, hown', (((Later.refl w).alloc _).step hL1).grown hg' (by have := hL1.size; simp only [World.size_alloc] at this; omega) (fun q e => by cases e; exact Nat.le_refl _)⟩
 have hd3 : decide ((n : Int) < 4294967296) = false := decide_eq_false (by omega)
 have hd3' : decide (n < 4294967296) = false := decide_eq_false (by omega)
 have hb : Wr.bytes n = [255] ++ Wr.be 8 n := by rw [Wr.bytes, if_neg h1, if_neg h2, if_neg h3]; rfl
 rw [hb]
 clear hb
 have hhi := fun W => refHigh_any n 8 W (by decide) hn
 go_enter Tryz.func63, Tryz.ntmps63
 go_wp2_with (first
  | (go_at_call 112; refine (hhi _).mono ?_; clear hhi; rintro e w1 ⟨v1, rfl, hown1, hL1⟩; obtain ⟨A1, c1, rfl, hc1, _, hrd1⟩ := hown1.slice; rw [Wr.be_len] at hc1 ⊢)
  | (at_builtin; refine wpList_append_bytes rfl (.tmp 23) (.tmp 25) 60 rfl w.heap.size 5 Tryz.underlying60 byteInfo _ _ rfl ((own1 w _ 255 rfl).later hL1) A1 8 c1 (Wr.be 8 n) rfl (Wr.be_len 8 n) hrd1 (by decide) (by have := hL1.size; simp only [World.size_alloc] at this; omega) ?_; intro v' w' hown' hg' hat'; obtain ⟨A', n', c', rfl⟩ := hown'.shape)
  | fail)
 go_ret
 exact ⟨_, rfl, hown', (((Later.refl w).alloc _).step hL1).grown hg' (by have := hL1.size; simp only [World.size_alloc] at this; omega) (fun q e => by cases e; exact Nat.le_refl _)⟩
theorem Wr.many_cases (x : UInt8) : (Wr.many x = 0 /\ x.toNat < 253) \/ (Wr.many x = 2 /\ x.toNat = 253) \/ (Wr.many x = 4 /\ x.toNat = 254) \/ (Wr.many x = 8 /\ x.toNat = 255) := by
 have h : ∀ n : Fin 256, (Wr.many (UInt8.ofNat n.val) = 0 /\ (UInt8.ofNat n.val).toNat < 253) \/ (Wr.many (UInt8.ofNat n.val) = 2 /\ (UInt8.ofNat n.val).toNat = 253) \/ (Wr.many (UInt8.ofNat n.val) = 4 /\ (UInt8.ofNat n.val).toNat = 254) \/ (Wr.many (UInt8.ofNat n.val) = 8 /\ (UInt8.ofNat n.val).toNat = 255) := by decide +kernel
 have := h ⟨x.toNat, x.toNat_lt⟩
 simpa using this
theorem wrefFirst_any (A : Option Addr) (n c : Nat) (l : List UInt8) (w : World) (hn : l.length = n) (hm : n <= 9223372036854775000) (hr : Rd w A l) :
  Calls Tryz.prog 90 #[.slice A n c] w fun e w' => e = .returned (.tuple #[.int .i64 ((Wr.first l).1 : Int), .int .i64 (Wr.first l).2]) /\ Later w w' := by
 rcases l with _ | ⟨x, r⟩
 ·simp at hn
  subst hn
  go_enter Tryz.func90, Tryz.ntmps90
  go_wp2_with fail
  go_ret2
  exact ⟨rfl, Later.refl _⟩
 have hn0 : 0 < n := by rw [<- hn]; simp
 obtain ⟨b, o, rfl, hc0⟩ := hr.at_ (k := 0) (by simp)
 rw [Nat.add_zero] at hc0
 have hd : ((n : Int) == 0) = false := by simp; omega
 have hd0 : decide ((0 : Int) < (n : Int)) = true := decide_eq_true (by omega)
 have hd0' : decide (0 < n) = true := decide_eq_true hn0
 obtain ⟨m, hm0⟩ : ∃ m, Wr.many x = m := ⟨_, rfl⟩
 have hmc := Wr.many_cases x
 rw [hm0] at hmc
 have HM := Lib.hid hm0
 clear hm0
 by_cases hlt : x.toNat < 253
 ·have hd1 : decide ((x.toNat : Int) < 253) = true := decide_eq_true (by omega)
  have hfst : Wr.first (x :: r) = (x.toNat, 1) := by
   have : m = 0 := by omega
   simp [Wr.first, HM.out, this]
  rw [hfst]
  clear hfst hmc
  go_enter Tryz.func90, Tryz.ntmps90
  go_wp2_with fail
  go_ret2
  exact ⟨rfl, Later.refl _⟩
 have hd1 : decide ((x.toNat : Int) < 253) = false := decide_eq_false (by omega)
 have hm248 : m = 2 \/ m = 4 \/ m = 8 := by omega
 have hmz : m ≠ 0 := by omega
 have HR := Lib.hid hr
 have HN := Lib.hid hn
 have hnum := fun (v : Nat) (hv : v < 9223372036854775808) W => refNumber_any v W hv
 have HNUM := Lib.hid hnum
 clear hnum hr hn
 have H248 := Lib.hid hm248
 go_enter Tryz.func90, Tryz.ntmps90
 go_upto_region 5 with fail
 rcases H248.out with h | h | h
 ·have e4 : ((x.toNat : Int) == 254) = false := by simp; omega
  have e8 : ((x.toNat : Int) == 255) = false := by simp; omega
  clear hmc hlt hm248
  go_upto_region 10 with fail
  rw [show Value.int .i64 2 = .int .i64 (m : Int) by rw [h]; rfl]
  have hm8 : m <= 8 := by omega
  have hmp : 2 <= m := by omega
  clear h e4 e8
  by_cases hlen : n < 1 + m
  ·have hd2 : decide ((n : Int) < 1 + (m : Int)) = true := decide_eq_true (by omega)
   have hfst : Wr.first (x :: r) = (0, 0) := by
    have h1 := HN.out
    rw [List.length_cons] at h1
    simp only [Wr.first]
    rw [HM.out, if_neg hmz, if_pos (by omega)]
   have HF := Lib.hid hfst
   clear hfst
   go_wp2_with fail
   go_ret2
   exact ⟨by rw [HF.out]; rfl, Later.refl _⟩
  ·have hd2 : decide ((n : Int) < 1 + (m : Int)) = false := decide_eq_false (by omega)
   have hrl : m <= r.length := by have h1 := HN.out; rw [List.length_cons] at h1; omega
   go_wp2_with fail
   go_loopw [5, 6] (fun u t wr => ∃ i : Nat, i <= m /\ t = .int .i64 ((i : Int) + 1) /\ wr = w /\ u = .int .u64 (Wr.val (r.take i) : Int)) (fun u t _ => m + 1 - (intOf t).toNat)
   case atStart => exact ⟨0, by omega, rfl, rfl, rfl⟩
   case round =>
    obtain ⟨i, hi, rfl, rfl, rfl⟩ := hrel
    have hvl := Wr.val_lt (r.take i)
    rw [List.length_take, Nat.min_eq_left (by omega)] at hvl
    by_cases hlti : i < m
    ·have hdl : decide ((i : Int) + 1 <= (m : Int)) = true := decide_eq_true (by omega)
     obtain ⟨b', o', e', hcc⟩ := HR.out (by simp)
     cases e'
     have hcell := hcc (i + 1) (by simp; omega)
     rw [List.getElem_cons_succ] at hcell
     have hnx : r.take (i + 1) = r.take i ++ [r[i]'(by omega)] := List.take_succ_eq_append_getElem (by omega)
     have hv1 : Wr.val (r.take (i + 1)) = 256 * Wr.val (r.take i) + (r[i]'(by omega)).toNat := by rw [hnx, Wr.val_snoc]
     have hcx := (r[i]'(by omega : i < r.length)).toNat_lt
     generalize (r[i]'(by omega : i < r.length)) = cx at *
     generalize hV : Wr.val (r.take i) = V at *
     have hvl7 : V < 256 ^ 7 := Nat.lt_of_lt_of_le hvl (Nat.pow_le_pow_right (by decide) (by omega))
     have HV1 := Lib.hid hv1
     have HVL := Lib.hid hvl
     have hbd : decide ((i : Int) + 1 < (n : Int)) = true := decide_eq_true (by omega)
     clear hv1 hnx hvl hcc
     go_wp2_with fail
     go_roundw
     case rel => exact ⟨i + 1, by omega, by go_num, trivial, by rw [HV1.out]; push_cast; rfl⟩
     case measure => simp [intOf]; omega
    ·obtain rfl : i = m := by omega
     have hdl : decide ((i : Int) + 1 <= (i : Int)) = false := decide_eq_false (by omega)
     have hnb := Wr.bytes_le (Wr.val (r.take i))
     have hfst : (Wr.first (x :: r)) = if 4611686018427387904 < Wr.val (r.take i) \/ (Wr.bytes (Wr.val (r.take i))).length ≠ 1 + i then (0, -1) else (Wr.val (r.take i), 1 + (i : Int)) := by
      simp only [Wr.first]
      rw [HM.out, if_neg hmz, if_neg (by omega)]
     have HF := Lib.hid hfst
     clear hfst
     have hV8 : Wr.val (r.take i) < 18446744073709551616 := Nat.lt_of_lt_of_le hvl (Nat.pow_le_pow_right (by decide) hm8)
     generalize Wr.val (r.take i) = V at *
     clear hvl
     by_cases h62 : 4611686018427387904 < V
     ·have hd6 : decide ((4611686018427387904 : Int) < (V : Int)) = true := decide_eq_true (by omega)
      rw [if_pos (.inl h62)] at HF
      go_wp2_with fail
      go_ret2
      exact ⟨by rw [HF.out]; rfl, Later.refl _⟩
     ·have hd6 : decide ((4611686018427387904 : Int) < (V : Int)) = false := decide_eq_false (by omega)
      have hnum := HNUM.out V (by omega) wr
      generalize hbl : (Wr.bytes V).length = bl at *
      have HBL := Lib.hid hbl
      clear hbl
      by_cases hbe : bl = 1 + i
      ·have hd7 : ((bl : Int) == 1 + (i : Int)) = true := by simp; omega
       rw [if_neg (fun h => h.elim h62 (fun h => h hbe))] at HF
       go_wp2_with (first
        | (go_at_call 63; refine hnum.mono ?_; clear hnum; rintro e w5 ⟨v5, rfl, hown5, hL5⟩; obtain ⟨A5, c5, rfl, _, _, _⟩ := hown5.slice; rw [HBL.out])
        | fail)
       go_ret2
       exact ⟨by rw [HF.out]; rfl, hL5⟩
      ·have hd7 : ((bl : Int) == 1 + (i : Int)) = false := by simp; omega
       rw [if_pos (.inr hbe)] at HF
       go_wp2_with (first
        | (go_at_call 63; refine hnum.mono ?_; clear hnum; rintro e w5 ⟨v5, rfl, hown5, hL5⟩; obtain ⟨A5, c5, rfl, _, _, _⟩ := hown5.slice; rw [HBL.out])
        | fail)
       go_ret2
       exact ⟨by rw [HF.out]; rfl, hL5⟩
 ·have e4 : ((x.toNat : Int) == 254) = true := by simp; omega
  have e8 : ((x.toNat : Int) == 255) = false := by simp; omega
  clear hmc hlt hm248
  go_upto_region 10 with fail
  rw [show Value.int .i64 4 = .int .i64 (m : Int) by rw [h]; rfl]
  have hm8 : m <= 8 := by omega
  have hmp : 2 <= m := by omega
  clear h e4 e8
  by_cases hlen : n < 1 + m
  ·have hd2 : decide ((n : Int) < 1 + (m : Int)) = true := decide_eq_true (by omega)
   have hfst : Wr.first (x :: r) = (0, 0) := by
    have h1 := HN.out
    rw [List.length_cons] at h1
    simp only [Wr.first]
    rw [HM.out, if_neg hmz, if_pos (by omega)]
   have HF := Lib.hid hfst
   clear hfst
   go_wp2_with fail
   go_ret2
   exact ⟨by rw [HF.out]; rfl, Later.refl _⟩
  ·have hd2 : decide ((n : Int) < 1 + (m : Int)) = false := decide_eq_false (by omega)
   have hrl : m <= r.length := by have h1 := HN.out; rw [List.length_cons] at h1; omega
   go_wp2_with fail
   go_loopw [5, 6] (fun u t wr => ∃ i : Nat, i <= m /\ t = .int .i64 ((i : Int) + 1) /\ wr = w /\ u = .int .u64 (Wr.val (r.take i) : Int)) (fun u t _ => m + 1 - (intOf t).toNat)
   case atStart => exact ⟨0, by omega, rfl, rfl, rfl⟩
   case round =>
    obtain ⟨i, hi, rfl, rfl, rfl⟩ := hrel
    have hvl := Wr.val_lt (r.take i)
    rw [List.length_take, Nat.min_eq_left (by omega)] at hvl
    by_cases hlti : i < m
    ·have hdl : decide ((i : Int) + 1 <= (m : Int)) = true := decide_eq_true (by omega)
     obtain ⟨b', o', e', hcc⟩ := HR.out (by simp)
     cases e'
     have hcell := hcc (i + 1) (by simp; omega)
     rw [List.getElem_cons_succ] at hcell
     have hnx : r.take (i + 1) = r.take i ++ [r[i]'(by omega)] := List.take_succ_eq_append_getElem (by omega)
     have hv1 : Wr.val (r.take (i + 1)) = 256 * Wr.val (r.take i) + (r[i]'(by omega)).toNat := by rw [hnx, Wr.val_snoc]
     have hcx := (r[i]'(by omega : i < r.length)).toNat_lt
     generalize (r[i]'(by omega : i < r.length)) = cx at *
     generalize hV : Wr.val (r.take i) = V at *
     have hvl7 : V < 256 ^ 7 := Nat.lt_of_lt_of_le hvl (Nat.pow_le_pow_right (by decide) (by omega))
     have HV1 := Lib.hid hv1
     have HVL := Lib.hid hvl
     have hbd : decide ((i : Int) + 1 < (n : Int)) = true := decide_eq_true (by omega)
     clear hv1 hnx hvl hcc
     go_wp2_with fail
     go_roundw
     case rel => exact ⟨i + 1, by omega, by go_num, trivial, by rw [HV1.out]; push_cast; rfl⟩
     case measure => simp [intOf]; omega
    ·obtain rfl : i = m := by omega
     have hdl : decide ((i : Int) + 1 <= (i : Int)) = false := decide_eq_false (by omega)
     have hnb := Wr.bytes_le (Wr.val (r.take i))
     have hfst : (Wr.first (x :: r)) = if 4611686018427387904 < Wr.val (r.take i) \/ (Wr.bytes (Wr.val (r.take i))).length ≠ 1 + i then (0, -1) else (Wr.val (r.take i), 1 + (i : Int)) := by
      simp only [Wr.first]
      rw [HM.out, if_neg hmz, if_neg (by omega)]
     have HF := Lib.hid hfst
     clear hfst
     have hV8 : Wr.val (r.take i) < 18446744073709551616 := Nat.lt_of_lt_of_le hvl (Nat.pow_le_pow_right (by decide) hm8)
     generalize Wr.val (r.take i) = V at *
     clear hvl
     by_cases h62 : 4611686018427387904 < V
     ·have hd6 : decide ((4611686018427387904 : Int) < (V : Int)) = true := decide_eq_true (by omega)
      rw [if_pos (.inl h62)] at HF
      go_wp2_with fail
      go_ret2
      exact ⟨by rw [HF.out]; rfl, Later.refl _⟩
     ·have hd6 : decide ((4611686018427387904 : Int) < (V : Int)) = false := decide_eq_false (by omega)
      have hnum := HNUM.out V (by omega) wr
      generalize hbl : (Wr.bytes V).length = bl at *
      have HBL := Lib.hid hbl
      clear hbl
      by_cases hbe : bl = 1 + i
      ·have hd7 : ((bl : Int) == 1 + (i : Int)) = true := by simp; omega
       rw [if_neg (fun h => h.elim h62 (fun h => h hbe))] at HF
       go_wp2_with (first
        | (go_at_call 63; refine hnum.mono ?_; clear hnum; rintro e w5 ⟨v5, rfl, hown5, hL5⟩; obtain ⟨A5, c5, rfl, _, _, _⟩ := hown5.slice; rw [HBL.out])
        | fail)
       go_ret2
       exact ⟨by rw [HF.out]; rfl, hL5⟩
      ·have hd7 : ((bl : Int) == 1 + (i : Int)) = false := by simp; omega
       rw [if_pos (.inr hbe)] at HF
       go_wp2_with (first
        | (go_at_call 63; refine hnum.mono ?_; clear hnum; rintro e w5 ⟨v5, rfl, hown5, hL5⟩; obtain ⟨A5, c5, rfl, _, _, _⟩ := hown5.slice; rw [HBL.out])
        | fail)
       go_ret2
       exact ⟨by rw [HF.out]; rfl, hL5⟩
 ·have e4 : ((x.toNat : Int) == 254) = false := by simp; omega
  have e8 : ((x.toNat : Int) == 255) = true := by simp; omega
  clear hmc hlt hm248
  go_upto_region 10 with fail
  rw [show Value.int .i64 8 = .int .i64 (m : Int) by rw [h]; rfl]
  have hm8 : m <= 8 := by omega
  have hmp : 2 <= m := by omega
  clear h e4 e8
  by_cases hlen : n < 1 + m
  ·have hd2 : decide ((n : Int) < 1 + (m : Int)) = true := decide_eq_true (by omega)
   have hfst : Wr.first (x :: r) = (0, 0) := by
    have h1 := HN.out
    rw [List.length_cons] at h1
    simp only [Wr.first]
    rw [HM.out, if_neg hmz, if_pos (by omega)]
   have HF := Lib.hid hfst
   clear hfst
   go_wp2_with fail
   go_ret2
   exact ⟨by rw [HF.out]; rfl, Later.refl _⟩
  ·have hd2 : decide ((n : Int) < 1 + (m : Int)) = false := decide_eq_false (by omega)
   have hrl : m <= r.length := by have h1 := HN.out; rw [List.length_cons] at h1; omega
   go_wp2_with fail
   go_loopw [5, 6] (fun u t wr => ∃ i : Nat, i <= m /\ t = .int .i64 ((i : Int) + 1) /\ wr = w /\ u = .int .u64 (Wr.val (r.take i) : Int)) (fun u t _ => m + 1 - (intOf t).toNat)
   case atStart => exact ⟨0, by omega, rfl, rfl, rfl⟩
   case round =>
    obtain ⟨i, hi, rfl, rfl, rfl⟩ := hrel
    have hvl := Wr.val_lt (r.take i)
    rw [List.length_take, Nat.min_eq_left (by omega)] at hvl
    by_cases hlti : i < m
    ·have hdl : decide ((i : Int) + 1 <= (m : Int)) = true := decide_eq_true (by omega)
     obtain ⟨b', o', e', hcc⟩ := HR.out (by simp)
     cases e'
     have hcell := hcc (i + 1) (by simp; omega)
     rw [List.getElem_cons_succ] at hcell
     have hnx : r.take (i + 1) = r.take i ++ [r[i]'(by omega)] := List.take_succ_eq_append_getElem (by omega)
     have hv1 : Wr.val (r.take (i + 1)) = 256 * Wr.val (r.take i) + (r[i]'(by omega)).toNat := by rw [hnx, Wr.val_snoc]
     have hcx := (r[i]'(by omega : i < r.length)).toNat_lt
     generalize (r[i]'(by omega : i < r.length)) = cx at *
     generalize hV : Wr.val (r.take i) = V at *
     have hvl7 : V < 256 ^ 7 := Nat.lt_of_lt_of_le hvl (Nat.pow_le_pow_right (by decide) (by omega))
     have HV1 := Lib.hid hv1
     have HVL := Lib.hid hvl
     have hbd : decide ((i : Int) + 1 < (n : Int)) = true := decide_eq_true (by omega)
     clear hv1 hnx hvl hcc
     go_wp2_with fail
     go_roundw
     case rel => exact ⟨i + 1, by omega, by go_num, trivial, by rw [HV1.out]; push_cast; rfl⟩
     case measure => simp [intOf]; omega
    ·obtain rfl : i = m := by omega
     have hdl : decide ((i : Int) + 1 <= (i : Int)) = false := decide_eq_false (by omega)
     have hnb := Wr.bytes_le (Wr.val (r.take i))
     have hfst : (Wr.first (x :: r)) = if 4611686018427387904 < Wr.val (r.take i) \/ (Wr.bytes (Wr.val (r.take i))).length ≠ 1 + i then (0, -1) else (Wr.val (r.take i), 1 + (i : Int)) := by
      simp only [Wr.first]
      rw [HM.out, if_neg hmz, if_neg (by omega)]
     have HF := Lib.hid hfst
     clear hfst
     have hV8 : Wr.val (r.take i) < 18446744073709551616 := Nat.lt_of_lt_of_le hvl (Nat.pow_le_pow_right (by decide) hm8)
     generalize Wr.val (r.take i) = V at *
     clear hvl
     by_cases h62 : 4611686018427387904 < V
     ·have hd6 : decide ((4611686018427387904 : Int) < (V : Int)) = true := decide_eq_true (by omega)
      rw [if_pos (.inl h62)] at HF
      go_wp2_with fail
      go_ret2
      exact ⟨by rw [HF.out]; rfl, Later.refl _⟩
     ·have hd6 : decide ((4611686018427387904 : Int) < (V : Int)) = false := decide_eq_false (by omega)
      have hnum := HNUM.out V (by omega) wr
      generalize hbl : (Wr.bytes V).length = bl at *
      have HBL := Lib.hid hbl
      clear hbl
      by_cases hbe : bl = 1 + i
      ·have hd7 : ((bl : Int) == 1 + (i : Int)) = true := by simp; omega
       rw [if_neg (fun h => h.elim h62 (fun h => h hbe))] at HF
       go_wp2_with (first
        | (go_at_call 63; refine hnum.mono ?_; clear hnum; rintro e w5 ⟨v5, rfl, hown5, hL5⟩; obtain ⟨A5, c5, rfl, _, _, _⟩ := hown5.slice; rw [HBL.out])
        | fail)
       go_ret2
       exact ⟨by rw [HF.out]; rfl, hL5⟩
      ·have hd7 : ((bl : Int) == 1 + (i : Int)) = false := by simp; omega
       rw [if_pos (.inr hbe)] at HF
       go_wp2_with (first
        | (go_at_call 63; refine hnum.mono ?_; clear hnum; rintro e w5 ⟨v5, rfl, hown5, hL5⟩; obtain ⟨A5, c5, rfl, _, _, _⟩ := hown5.slice; rw [HBL.out])
        | fail)
       go_ret2
       exact ⟨by rw [HF.out]; rfl, hL5⟩
section
variable {P : Program} {Q : Exit -> Act -> World -> Prop} {o : Oper} {a : Act} {W : World} {R : Value -> World -> Prop}
theorem op_buildR {t : TypeId} {parts : Array (Nat × Operand)} {vs : Array (Nat × Value)} {v : Value} (ho : o.op = .build t parts) (hp : (parts.map fun (i, x) => (i, a.eval x)) = vs) (hr : (Instr.build t vs).run P W = .ok v W) (h : R v W) : o.wp P a W (fun a' W' => ∃ v, a' = a.put o.dst v /\ Later W W' /\ R v W') Q := by
 refine op_value (v := v) (W' := W) ?_ (Later.refl _) h
 unfold execOp
 simp only [ho, hp, hr, Sem.run_bind, Sem.run_pure, Result.andThen_ok]
theorem last_assign {x : Operand} {vx : Value} (ho : o.op = .assign x) (hx : a.eval x = vx) (h : Q .normal (a.put o.dst vx) W) : LastOk P o a W Q :=
 ⟨op_assignK (K := fun a' W' => Q .normal a' W') ho (by rw [hx]; exact h)⟩
end
theorem Calls.post {P : Program} {f : FuncId} {args : Array Value} {w : World} {R : Ending -> World -> Prop} (h : ∀ Φ : Ending -> World -> Prop, Hid (∀ e w', R e w' -> Φ e w') -> Calls P f args w Φ) : Calls P f args w R := h R (Lib.hid fun _ _ h => h)
abbrev rfV (A : Option Addr) (n c : Nat) (bad : Bool) : Array Value := #[.slice A n c, .bool bad]
theorem infoRf : (Tryz.prog.info? 89).map (·.size) = some 2 := by kernel_rfl
theorem allocRf (w : World) : (Instr.alloc 89 true (.tuple #[])).run Tryz.prog w = .ok (.pointer (some ⟨w.heap.size, 0, none⟩)) (w.alloc (.cells (rfV none 0 0 false) 89)) := by kernel_rfl
theorem buildRf (A : Option Addr) (n c : Nat) (bad : Bool) (w : World) : (Instr.build 89 #[(0, .slice A n c), (1, .bool bad)]).run Tryz.prog w = .ok (.agg (rfV A n c bad)) w := by kernel_rfl
theorem loadRf {w : World} {g : Nat} {A : Option Addr} {n c : Nat} {bad : Bool} (hr : Row w g 89 (rfV A n c bad)) : (Instr.loadAt 89 (.pointer (some ⟨g, 0, none⟩))).run Tryz.prog w = .ok (.agg (rfV A n c bad)) w := run_load_row hr Tryz.underlying89 rfl infoRf
theorem storeRf {w : World} {g : Nat} {A A' : Option Addr} {n c n' c' : Nat} {bad bad' : Bool} (hr : Row w g 89 (rfV A n c bad)) : ∃ w', (Instr.storeAt 89 (.pointer (some ⟨g, 0, none⟩)) (.agg (rfV A' n' c' bad'))).run Tryz.prog w = .ok () w' /\ Row w' g 89 (rfV A' n' c' bad') /\ w.grownBy w' (some g) :=
 ⟨_, run_store_row hr (rfV A' n' c' bad') infoRf (by simp) (by kernel_rfl), row_setCells [.slice A' n' c', .bool bad'] 0 w _ hr, grown_setCells _ _ _⟩
theorem fieldRf0 {g : Nat} (W : World) : (Instr.fieldAt 89 (.pointer (some ⟨g, 0, none⟩)) 0).run Tryz.prog W = .ok (.pointer (some ⟨g, 0, none⟩)) W := by
 go_simp
theorem results_cell_tmp2 {P : Program} {fn : Func} {p q q2 : Tmp} {ty : TypeId} (h : fn.results = #[.cell p ty, .tmp q, .tmp q2]) (tmps : Array Value) (w : World) (g : Nat) (t : TypeId) (cs : Array Value) (fr : Nat × Nat) (d : TypeDesc) (v v2 : Value)
  (hp : tmps.getD p undef = .pointer (some ⟨g, 0, none⟩)) (hq : tmps.getD q undef = v) (hq2 : tmps.getD q2 undef = v2) (hg : w.heap[g]? = some (.cells cs t fr))
  (hu : P.underlying ty = some d) (hd : (match d with | .struct _ | .array _ _ => true | _ => false) = true) (hi : (P.info? ty).map (·.size) = some cs.size) :
  (results fn tmps).run P w = .ok (.tuple #[.agg cs, v, v2]) w := by
 have hp' : tmps[p]?.getD undef = .pointer (some ⟨g, 0, none⟩) := by simpa using hp
 have hq' : tmps[q]?.getD undef = v := by simpa using hq
 have hq2' : tmps[q2]?.getD undef = v2 := by simpa using hq2
 simp [results, h, hp', hq', hq2', asAddr, run_loadVar_row w g t ty cs fr d hg hu hd hi]
theorem refTake_any (A : Option Addr) (n c : Nat) (l : List UInt8) (bad : Bool) (k : Nat) (w : World) (hn : l.length = n) (hc : n <= c) (hcm : c <= 9223372036854775807) (hk : k <= 9223372036854775807) :
  Calls Tryz.prog 89 #[.agg (rfV A n c bad), .int .i64 (k : Int)] w fun e w' => Later w w' /\ ((bad = false /\ k <= n /\ ∃ D, e = .returned (.tuple #[.agg (rfV D (n - k) (c - k) false), .slice A k c, .int .i64 0]) /\ ∀ X, Rd X A l -> Rd X D (l.drop k)) \/ ((bad = true \/ n < k) /\ e = .returned (.tuple #[.agg (rfV A n c true), .slice none 0 0, .int .i64 140]))) := by
 have k2 := (Row.new w 89 (rfV A n c bad)).alloc (.cells (rfV none 0 0 false) 89)
 have k4 := Row.new (w.alloc (.cells (rfV A n c bad) 89)) 89 (rfV none 0 0 false)
 have hb := (((Later.refl w).alloc (.cells (rfV A n c bad) 89)).alloc (.cells (rfV none 0 0 false) 89))
 refine Calls.post fun Φ HΦ => ?_
 go_enter Tryz.func89, Tryz.ntmps89
 go_upto_region 1 with (first
  | (with_reducible refine wpList_alloc rfl 89 rfl (allocRf _) ?_)
  | fail)
 simp only [World.size_alloc] at k4 ⊢
 obtain ⟨q, hq⟩ : ∃ q, q = w.heap.size := ⟨_, rfl⟩
 rw [<- hq] at k2 k4 ⊢
 generalize (w.alloc (.cells (rfV A n c bad) 89)).alloc (.cells (rfV none 0 0 false) 89) = w1 at *
 have HQ := Lib.hid hq
 clear hq
 have c20 : w1.cell? ⟨q, 0, none⟩ = some (.slice A n c) := (k2.cell 0).trans rfl
 have c21 : w1.cell? ⟨q, 1, none⟩ = some (.bool bad) := (k2.cell 1).trans rfl
 by_cases hok : bad = false /\ k <= n
 ·obtain ⟨rfl, hkn⟩ := hok
  have hd : decide ((n : Int) < (k : Int)) = false := decide_eq_false (by omega)
  obtain ⟨D, hs1, hD⟩ := run_slice_from (P := Tryz.prog) (t := 60) (U := 5) (A := A) (n := n) (ca := c) (k := k) Tryz.underlying60 byteInfo hkn hc
  have hs2 : ∀ w : World, (Instr.sliceAt 60 (.slice A n c) none (some (.int .i64 (k : Int))) none).run Tryz.prog w = .ok (.slice A k c) w := run_slice_upto (k := k) Tryz.underlying60 byteInfo (by omega)
  go_upto_region 3 with fail
  refine (wpIn_wide (n := 0)).1 ?_
  refine wpIn_region_pivot wide_wide 9 [.pointer (some ⟨q, 0, none⟩), .slice A n c, .int .i64 (k : Int), .slice D (n - k) (c - k), .agg (rfV D (n - k) (c - k) false), .pointer (some ⟨q, 0, none⟩), .slice A n c, .int .i64 (k : Int), .slice A k c, undef, .slice A k c] (fun W => Later w1 W) (fun y W => Later w W /\ Row W q 89 (rfV A n c false) /\ Row W (q + 1) 89 (rfV D (n - k) (c - k) false)) (fun W W' h k => k.step h) (fun y W W' h k => ⟨k.1.step h, k.2.1.later h, k.2.2.later h⟩) (Later.refl _) (by kernel_rfl) (by kernel_rfl) (by kernel_rfl) (by kernel_rfl) (by kernel_rfl) (by kernel_rfl) rfl (by kernel_rfl) (by kernel_rfl) ⟨?_, ?_, ?_, ?_, ?_, ?_, ?_, ?_, ?_, ?_, ?_, trivial⟩ ?_
  ·exact fun ac W d x he => stepOk_want rfl (op_fieldAddr rfl (he.k 2) (fieldRf0 W) rfl)
  ·exact fun ac W d x he => stepOk_want rfl (op_load rfl (show ac.eval (.tmp 19) = .pointer (some ⟨q, 0, none⟩) from he.v 0 19) (loadSl ((he.both (C := fun W => Row W q 89 (rfV A n c false)) (fun W h => k2.later h) (fun y W h => h.2.1)).cell 0 |>.trans rfl)) rfl)
  ·exact fun ac W d x he => stepOk_want rfl (op_move rfl (he.k 1))
  ·exact fun ac W d x he => stepOk_want rfl (op_slice (W' := W) rfl (show ac.eval (.tmp 20) = .slice A n c from he.v 1 20) (congrArg some (show ac.eval (.tmp 21) = .int .i64 (k : Int) from he.v 2 21)) (rfl : _ = none) rfl (hs1 W) rfl)
  ·exact fun ac W d x he => stepOk_want rfl (op_buildR rfl (by simp only [List.map_toArray, List.map_cons, List.map_nil, (show ac.eval (.tmp 22) = .slice D (n - k) (c - k) from he.v 3 22)]; rfl) (buildRf D (n - k) (c - k) false W) rfl)
  ·exact fun ac W d x he => stepOk_want rfl (op_fieldAddr rfl (he.k 2) (fieldRf0 W) rfl)
  ·exact fun ac W d x he => stepOk_want rfl (op_load rfl (show ac.eval (.tmp 24) = .pointer (some ⟨q, 0, none⟩) from he.v 5 24) (loadSl ((he.both (C := fun W => Row W q 89 (rfV A n c false)) (fun W h => k2.later h) (fun y W h => h.2.1)).cell 0 |>.trans rfl)) rfl)
  ·exact fun ac W d x he => stepOk_want rfl (op_move rfl (he.k 1))
  ·exact fun ac W d x he => stepOk_want rfl (op_slice (W' := W) rfl (show ac.eval (.tmp 25) = .slice A n c from he.v 6 25) (rfl : _ = none) (congrArg some (show ac.eval (.tmp 26) = .int .i64 (k : Int) from he.v 7 26)) rfl (hs2 W) rfl)
  ·intro ac W he hA; refine ⟨rfl, ?_⟩; have e4 := (he.k 4); have e23 := (show ac.eval (.tmp 23) = .agg (rfV D (n - k) (c - k) false) from he.v 4 23); obtain ⟨W', hst, hrow', hg'⟩ := storeRf (A' := D) (n' := n - k) (c' := c - k) (bad' := false) (k4.later hA); exact op_storeK rfl e4 e23 hst ⟨_, rfl, (hb.step hA).grown hg' (hb.step hA).size (fun j e => by cases e; have := HQ.out; omega), (k2.later hA).grown hg' (by intro e; have := Option.some.inj e; omega), hrow'⟩
  ·exact fun ac W d x he => stepOk_want rfl (op_assign rfl (show ac.eval (.tmp 27) = .slice A k c from he.v 8 27))
  ·intro xs W y hB hx hk hg
   refine last_assign (vx := .int .i64 0) rfl rfl ?_
   have e10 := hx 10 (by decide)
   have hB2 := hB
   clear hx hk hg hB
   simp only [initL, lastL, putL, Nat.reduceAdd, Act.put, List.setIfInBounds_toArray, List.set_cons_succ, List.set_cons_zero]
   rw [e10]
   go_wp2_with fail
   exact bodyPost_ret (results_cell_tmp2 rfl _ _ (q + 1) 89 (rfV D (n - k) (c - k) false) (0, 0) _ (.slice A k c) (.int .i64 0) rfl rfl rfl hB2.2.2 Tryz.underlying89 rfl infoRf) rfl (HΦ.out _ _ ⟨hB2.1, .inl ⟨by first | rfl | trivial, hkn, D, rfl, fun X hX => hD X l hn hX⟩⟩)
 ·have hor : bad = true \/ n < k := by
   cases bad
   ·exact .inr (by have : ¬ k <= n := fun h => hok ⟨rfl, h⟩; omega)
   ·exact .inl rfl
  have hd : bad = false -> decide ((n : Int) < (k : Int)) = true := fun h => decide_eq_true (by rcases hor with h2 | h2; · { rw [h] at h2; cases h2 }; · omega)
  obtain ⟨w2, hst, k42, hg2⟩ := storeRf (A' := A) (n' := n) (c' := c) (bad' := true) k4
  have hb2 : Later w w2 := hb.grown hg2 hb.size (fun j e => by cases e; have := HQ.out; omega)
  cases bad with
  | true =>
   go_wp2_with (first
    | (refine wpList_store rfl 89 (.tmp 4) (.tmp 18) rfl (.pointer (some ⟨q + 1, 0, none⟩)) (.agg (rfV A n c true)) rfl rfl hst ?_)
    | fail)
   exact bodyPost_ret (results_cell_tmp2 rfl _ _ (q + 1) 89 (rfV A n c true) (0, 0) _ (.slice none 0 0) (.int .i64 140) rfl rfl rfl k42 Tryz.underlying89 rfl infoRf) rfl (HΦ.out _ _ ⟨hb2, .inr ⟨.inl (by first | rfl | trivial), rfl⟩⟩)
  | false =>
   have hd1 : decide ((n : Int) < (k : Int)) = true := hd rfl
   have hkn : n < k := hor.resolve_left (fun h => by cases h)
   clear hd hok
   go_wp2_with (first
    | (refine wpList_store rfl 89 (.tmp 4) (.tmp 18) rfl (.pointer (some ⟨q + 1, 0, none⟩)) (.agg (rfV A n c true)) rfl rfl hst ?_)
    | fail)
   exact bodyPost_ret (results_cell_tmp2 rfl _ _ (q + 1) 89 (rfV A n c true) (0, 0) _ (.slice none 0 0) (.int .i64 140) rfl rfl rfl k42 Tryz.underlying89 rfl infoRf) rfl (HΦ.out _ _ ⟨hb2, .inr ⟨hor, rfl⟩⟩)
def RefV (A : Option Addr) (l : List UInt8) (v : Value) (l' : List UInt8) (bad : Bool) : Prop := ∃ D c, v = .agg (rfV D l'.length c bad) /\ l'.length <= c /\ c <= 9223372036854775807 /\ ∀ X, Rd X A l -> Rd X D l'
theorem refNumberR_any (A : Option Addr) (n c : Nat) (l : List UInt8) (bad : Bool) (most : Int) (w : World) (hn : l.length = n) (hc : n <= c) (hcm : c <= 9223372036854775807) (hnm : n <= 9223372036854775000) (hr : Rd w A l) :
  Calls Tryz.prog 42 #[.agg (rfV A n c bad), .int .i64 most] w fun e w' => Later w w' /\ ∃ v, e = .returned (.tuple #[v, .int .i64 (Wr.numR l bad most).2.1, .int .i64 (Wr.numR l bad most).2.2]) /\ RefV A l v (Wr.numR l bad most).1.1 (Wr.numR l bad most).1.2 := by
 have k2 := (Row.new w 89 (rfV A n c bad)).alloc (.cells (rfV none 0 0 false) 89)
 have k4 := Row.new (w.alloc (.cells (rfV A n c bad) 89)) 89 (rfV none 0 0 false)
 have hb := (((Later.refl w).alloc (.cells (rfV A n c bad) 89)).alloc (.cells (rfV none 0 0 false) 89))
 refine Calls.post fun Φ HΦ => ?_
 go_enter Tryz.func42, Tryz.ntmps42
 go_upto_region 1 with (first
  | (with_reducible refine wpList_alloc rfl 89 rfl (allocRf _) ?_)
  | fail)
 simp only [World.size_alloc] at k4 ⊢
 obtain ⟨q, hq⟩ : ∃ q, q = w.heap.size := ⟨_, rfl⟩
 rw [<- hq] at k2 k4 ⊢
 generalize (w.alloc (.cells (rfV A n c bad) 89)).alloc (.cells (rfV none 0 0 false) 89) = w1 at *
 have HQ := Lib.hid hq
 have HN := Lib.hid hn
 clear hq hn
 have c20 : w1.cell? ⟨q, 0, none⟩ = some (.slice A n c) := (k2.cell 0).trans rfl
 have c21 : w1.cell? ⟨q, 1, none⟩ = some (.bool bad) := (k2.cell 1).trans rfl
 have hld := loadRf k2
 have hfin : ∀ w2 w3 (A' : Option Addr) (n' c' : Nat) (b' : Bool), Later w1 w2 -> w2.grownBy w3 (some (q + 1)) -> Later w w3 := fun w2 w3 A' n' c' b' h h2 => (hb.step h).grown h2 (hb.step h).size (fun j e => by cases e; have := HQ.out; omega)
 cases bad with
 | true =>
  obtain ⟨w2, hst, k42, hg2⟩ := storeRf (A' := A) (n' := n) (c' := c) (bad' := true) k4
  go_wp2_with (first
   | (refine wpList_load rfl 89 (.tmp 2) rfl (.pointer (some ⟨q, 0, none⟩)) rfl hld ?_)
   | (refine wpList_store rfl 89 (.tmp 4) (.tmp 11) rfl (.pointer (some ⟨q + 1, 0, none⟩)) (.agg (rfV A n c true)) rfl rfl hst ?_)
   | fail)
  exact bodyPost_ret (results_cell_tmp2 rfl _ _ (q + 1) 89 (rfV A n c true) (0, 0) _ (.int .i64 0) (.int .i64 140) rfl rfl rfl k42 Tryz.underlying89 rfl infoRf) rfl (HΦ.out _ _ ⟨hfin _ _ A n c true (Later.refl _) hg2, _, rfl, A, c, by rw [<- HN.out]; rfl, by rw [<- HN.out] at hc; exact hc, by omega, fun _ h => h⟩)
 | false =>
  by_cases hm0 : most < 0
  ·have hd : decide (most < 0) = true := decide_eq_true hm0
   have e1 : Wr.numR l false most = ((l, false), 0, 2) := by simp [Wr.numR, hm0]
   rw [e1] at HΦ
   obtain ⟨w2, hst, k42, hg2⟩ := storeRf (A' := A) (n' := n) (c' := c) (bad' := false) k4
   go_wp2_with (first
    | (refine wpList_load rfl 89 (.tmp 2) rfl (.pointer (some ⟨q, 0, none⟩)) rfl hld ?_)
    | (refine wpList_store rfl 89 (.tmp 4) (.tmp 14) rfl (.pointer (some ⟨q + 1, 0, none⟩)) (.agg (rfV A n c false)) rfl rfl hst ?_)
    | fail)
   exact bodyPost_ret (results_cell_tmp2 rfl _ _ (q + 1) 89 (rfV A n c false) (0, 0) _ (.int .i64 0) (.int .i64 2) rfl rfl rfl k42 Tryz.underlying89 rfl infoRf) rfl (HΦ.out _ _ ⟨hfin _ _ A n c true (Later.refl _) hg2, _, rfl, A, c, by rw [<- HN.out], by rw [<- HN.out] at hc; exact hc, by omega, fun _ h => h⟩)
  have hd : decide (most < 0) = false := decide_eq_false hm0
  have hfi := wrefFirst_any A n c l w1 HN.out (by omega) (hr.later hb)
  obtain ⟨hf1, hf2, hf3⟩ := Wr.first_le l
  by_cases hmay : Wr.may l most
  ·have e1 : Wr.numR l false most = ((l.drop (Wr.first l).2.toNat, false), ((Wr.first l).1 : Int), 0) := by simp [Wr.numR, hm0, hmay]
   rw [e1] at HΦ
   have hm2 := hmay
   unfold Wr.may at hm2
   clear e1 hmay
   generalize Wr.first l = F at *
   obtain ⟨f, s⟩ := F
   obtain ⟨hk, hle⟩ := hm2
   obtain ⟨k, rfl⟩ : ∃ k : Nat, s = k := ⟨s.toNat, by have : 0 < s := hk; omega⟩
   replace hf1 : (k : Int) <= l.length := hf1
   replace hk : (0 : Int) < k := hk
   replace hle : (f : Int) <= most := hle
   have hkn : k <= n := by rw [<- HN.out]; omega
   simp only [Int.toNat_natCast] at HΦ
   obtain ⟨D, hs1, hD⟩ := run_slice_from (P := Tryz.prog) (t := 60) (U := 5) (A := A) (n := n) (ca := c) (k := k) Tryz.underlying60 byteInfo hkn hc
   have hd2 : decide ((k : Int) <= 0) = false := decide_eq_false (by omega)
   have hd3 : decide (most < (f : Int)) = false := decide_eq_false (by omega)
   go_wp2_with (first
    | (go_at_call 90; refine hfi.mono ?_; clear hfi; rintro e w2 ⟨rfl, hL2⟩; have c202 := hL2.cell c20; obtain ⟨w3, hst, k43, hg3⟩ := storeRf (A' := D) (n' := n - k) (c' := c - k) (bad' := false) (k4.later hL2))
    | (refine wpList_store rfl 89 (.tmp 4) (.tmp 35) rfl (.pointer (some ⟨q + 1, 0, none⟩)) (.agg (rfV D (n - k) (c - k) false)) rfl rfl hst ?_)
    | fail)
   exact bodyPost_ret (results_cell_tmp2 rfl _ _ (q + 1) 89 (rfV D (n - k) (c - k) false) (0, 0) _ (.int .i64 (f : Int)) (.int .i64 0) rfl rfl rfl k43 Tryz.underlying89 rfl infoRf) rfl (HΦ.out _ _ ⟨hfin _ _ A n c true hL2 hg3, _, rfl, D, c - k, by rw [List.length_drop, HN.out], by rw [List.length_drop, HN.out]; omega, by omega, fun X h => hD X l HN.out h⟩)
  ·have e1 : Wr.numR l false most = ((l, true), 0, 140) := by simp [Wr.numR, hm0, hmay]
   rw [e1] at HΦ
   have hm2 := hmay
   unfold Wr.may at hm2
   clear e1 hmay
   generalize Wr.first l = F at *
   obtain ⟨f, s⟩ := F
   by_cases hk : (0 : Int) < s
   ·have hle : ¬ (f : Int) <= most := fun h => hm2 ⟨hk, h⟩
    have hd2 : decide (s <= 0) = false := decide_eq_false (by omega)
    have hd3 : decide (most < (f : Int)) = true := decide_eq_true (by omega)
    go_wp2_with (first
     | (go_at_call 90; refine hfi.mono ?_; clear hfi; rintro e w2 ⟨rfl, hL2⟩; have c202 := hL2.cell c20; obtain ⟨w3, hst, k43, hg3⟩ := storeRf (A' := A) (n' := n) (c' := c) (bad' := true) (k4.later hL2))
     | (refine wpList_store rfl 89 (.tmp 4) (.tmp 30) rfl (.pointer (some ⟨q + 1, 0, none⟩)) (.agg (rfV A n c true)) rfl rfl hst ?_)
     | fail)
    exact bodyPost_ret (results_cell_tmp2 rfl _ _ (q + 1) 89 (rfV A n c true) (0, 0) _ (.int .i64 0) (.int .i64 140) rfl rfl rfl k43 Tryz.underlying89 rfl infoRf) rfl (HΦ.out _ _ ⟨hfin _ _ A n c true hL2 hg3, _, rfl, A, c, by rw [<- HN.out], by rw [<- HN.out] at hc; exact hc, by omega, fun _ h => h⟩)
   ·have hd2 : decide (s <= 0) = true := decide_eq_true (by omega)
    go_wp2_with (first
     | (go_at_call 90; refine hfi.mono ?_; clear hfi; rintro e w2 ⟨rfl, hL2⟩; have c202 := hL2.cell c20; obtain ⟨w3, hst, k43, hg3⟩ := storeRf (A' := A) (n' := n) (c' := c) (bad' := true) (k4.later hL2))
     | (refine wpList_store rfl 89 (.tmp 4) (.tmp 30) rfl (.pointer (some ⟨q + 1, 0, none⟩)) (.agg (rfV A n c true)) rfl rfl hst ?_)
     | fail)
    exact bodyPost_ret (results_cell_tmp2 rfl _ _ (q + 1) 89 (rfV A n c true) (0, 0) _ (.int .i64 0) (.int .i64 140) rfl rfl rfl k43 Tryz.underlying89 rfl infoRf) rfl (HΦ.out _ _ ⟨hfin _ _ A n c true hL2 hg3, _, rfl, A, c, by rw [<- HN.out], by rw [<- HN.out] at hc; exact hc, by omega, fun _ h => h⟩)
end Go.Proofs.YtloiaaolnfimgaaGreat
namespace Go.Proofs.YtloiaaolnfimgaaGreat
open Go.RowKit Go.ChangeShapes Go.WideShapes Go.ChangeAt
theorem rf_no_byte {w : World} {q : Nat} {t : TypeId} {A : Option Addr} {n c : Nat} {bad : Bool} (hr : Row w q t (rfV A n c bad)) {b o : Nat} {x : UInt8} (hc : w.cell? ⟨b, o, none⟩ = some (byteV x)) : b ≠ q := fun e => by
 subst e
 rw [hr.cell] at hc
 rcases o with _ | _ | o <;> simp [rfV, byteV] at hc
end Go.Proofs.YtloiaaolnfimgaaGreat
namespace Go.Proofs.YtloiaaolnfimgaaGreat
open Go.RowKit
section
variable {P : Program} {ops : Array Oper} {rest : List Oper} {o : Oper} {a : Act} {w : World} {Q : Exit -> Act -> World -> Prop}
theorem wpList_slice0 (hgd : o.guard = none) (T : TypeId) (x : Operand) (ho : o.op = .slice T x none none none) (vx : Value) (hx : a.eval x = vx) {v : Value} {w' : World} (hr : (Instr.sliceAt T vx none none none).run P w = .ok v w')
  (h : wpList P ops Q rest (a.put o.dst v) w') : wpList P ops Q (o :: rest) a w :=
 wpList_plain hgd fun _ hK => by
  unfold Oper.wp execOp
  simp only [ho, Sem.run_bind, Sem.run_pure, Result.andThen_ok, Option.map_none, hx, hr]
  exact hK _ _ h
theorem wpList_build (hgd : o.guard = none) (T : TypeId) (parts : Array (Nat × Operand)) (ho : o.op = .build T parts) (vs : Array (Nat × Value)) (hp : (parts.map fun (i, x) => (i, a.eval x)) = vs) {v : Value} {w' : World} (hr : (Instr.build T vs).run P w = .ok v w')
  (h : wpList P ops Q rest (a.put o.dst v) w') : wpList P ops Q (o :: rest) a w :=
 wpList_plain hgd fun _ hK => by
  unfold Oper.wp execOp
  simp only [ho, hp, Sem.run_bind, Sem.run_pure, Result.andThen_ok, hr]
  exact hK _ _ h
theorem results_cells2 {P : Program} {fn : Func} {p r q : Tmp} {ty ty2 : TypeId} (h : fn.results = #[.cell p ty, .cell r ty2, .tmp q]) {tmps : Array Value} {w : World} {g g2 : Nat} {t t2 : TypeId} {cs cs2 : Array Value} {d d2 : TypeDesc} {v : Value}
  (hp : tmps.getD p undef = .pointer (some ⟨g, 0, none⟩)) (hr : tmps.getD r undef = .pointer (some ⟨g2, 0, none⟩)) (hq : tmps.getD q undef = v) (hg : Row w g t cs) (hg2 : Row w g2 t2 cs2)
  (hu : P.underlying ty = some d) (hd : (match d with | .struct _ | .array _ _ => true | _ => false) = true) (hi : (P.info? ty).map (·.size) = some cs.size)
  (hu2 : P.underlying ty2 = some d2) (hd2 : (match d2 with | .struct _ | .array _ _ => true | _ => false) = true) (hi2 : (P.info? ty2).map (·.size) = some cs2.size) :
  (results fn tmps).run P w = .ok (.tuple #[.agg cs, .agg cs2, v]) w := by
 have hp' : tmps[p]?.getD undef = .pointer (some ⟨g, 0, none⟩) := by simpa using hp
 have hr' : tmps[r]?.getD undef = .pointer (some ⟨g2, 0, none⟩) := by simpa using hr
 have hq' : tmps[q]?.getD undef = v := by simpa using hq
 simp [results, h, hp', hr', hq', asAddr, run_loadVar_row w g t ty cs (0, 0) d hg hu hd hi, run_loadVar_row w g2 t2 ty2 cs2 (0, 0) d2 hg2 hu2 hd2 hi2]
end
theorem wbuildH0 (w : World) : (Instr.build 25 #[]).run Tryz.prog w = .ok (.agg (hC [])) w := by kernel_rfl
theorem refHashR_any (A : Option Addr) (n c : Nat) (l : List UInt8) (bad : Bool) (w : World) (hn : l.length = n) (hc : n <= c) (hcm : c <= 9223372036854775807) (hr : Rd w A l) :
  Calls Tryz.prog 41 #[.agg (rfV A n c bad)] w fun e w' => Later w w' /\ ∃ v, e = .returned (.tuple #[v, .agg (hC (Wr.hashR l bad).2.1), .int .i64 (Wr.hashR l bad).2.2]) /\ RefV A l v (Wr.hashR l bad).1.1 (Wr.hashR l bad).1.2 := by
 have k1 := ((Row.new w 89 (rfV A n c bad)).alloc (.cells (rfV none 0 0 false) 89)).alloc (.cells (hC []) 25)
 have k2 := (Row.new (w.alloc (.cells (rfV A n c bad) 89)) 89 (rfV none 0 0 false)).alloc (.cells (hC []) 25)
 have k3 := Row.new ((w.alloc (.cells (rfV A n c bad) 89)).alloc (.cells (rfV none 0 0 false) 89)) 25 (hC [])
 have hb := ((((Later.refl w).alloc (.cells (rfV A n c bad) 89)).alloc (.cells (rfV none 0 0 false) 89)).alloc (.cells (hC []) 25))
 refine Calls.post fun Φ HΦ => ?_
 go_enter Tryz.func41, Tryz.ntmps41
 go_upto_region 1 with (first
  | (with_reducible refine wpList_alloc rfl 89 rfl (allocRf _) ?_)
  | (with_reducible refine wpList_alloc rfl 25 rfl (allocH _) ?_)
  | fail)
 simp only [World.size_alloc] at k2 k3 ⊢
 obtain ⟨q, hq⟩ : ∃ q, q = w.heap.size := ⟨_, rfl⟩
 rw [<- hq] at k1 k2 k3 ⊢
 generalize ((w.alloc (.cells (rfV A n c bad) 89)).alloc (.cells (rfV none 0 0 false) 89)).alloc (.cells (hC []) 25) = w1 at *
 have HQ := Lib.hid hq
 have HN := Lib.hid hn
 clear hq hn
 have hld := loadRf k1
 have htk := refTake_any A n c l bad 32 w1 HN.out hc (by omega) (by decide)
 have hr1 := hr.later hb
 by_cases hok : bad = false /\ 32 <= n
 ·obtain ⟨hbad, hn1⟩ := hok
  subst hbad
  have e1 : Wr.hashR l false = ((l.drop 32, false), l.take 32, 0) := by simp [Wr.hashR]; rw [HN.out]; exact hn1
  rw [e1] at HΦ
  clear e1
  go_upto_region 2 with (first
   | (refine wpList_load rfl 89 (.tmp 1) rfl (.pointer (some ⟨q, 0, none⟩)) rfl hld ?_)
   | (go_at_call 89; refine htk.mono ?_; clear htk; rintro e w2 ⟨hL2, ⟨_, _, D, rfl, hD⟩ | ⟨h, _⟩⟩; rotate_left; exact absurd h (by simp; omega); obtain ⟨w3, hst, k53, hg3⟩ := storeRf (A' := D) (n' := n - 32) (c' := c - 32) (bad' := false) (Row.new w2 89 (rfV none 0 0 false)))
   | (with_reducible refine wpList_alloc rfl 89 rfl (allocRf _) ?_)
   | (refine wpList_store rfl 89 (.tmp 5) (.tmp 12) rfl (.pointer (some ⟨w2.heap.size, 0, none⟩)) (.agg (rfV D (n - 32) (c - 32) false)) rfl rfl hst ?_)
   | fail)
  obtain ⟨q5, hq5⟩ : ∃ q, q = w2.heap.size := ⟨_, rfl⟩
  have hL23 : Later w2 w3 := ((Later.refl w2).alloc (.cells (rfV none 0 0 false) 89)).grown hg3 (by simp) (fun j e => by cases e; omega)
  have k8 := Row.new w3 25 (hC [])
  have k23 := (k2.later (hL2.step hL23)).alloc (.cells (hC []) 25)
  have k33 := (k3.later (hL2.step hL23)).alloc (.cells (hC []) 25)
  have hb3 := (hb.step (hL2.step hL23)).alloc (.cells (hC []) 25)
  have hr3 := ((hr1.later (hL2.step hL23)).alloc (.cells (hC []) 25))
  have hlt5 := k53.lt
  have hlt3 := (k3.later hL2).lt
  have k53a := k53.alloc (.cells (hC []) 25)
  rw [<- hq5] at k53 k53a hg3 hlt5 ⊢
  have hlt33 := (k3.later (hL2.step hL23)).lt
  clear hst hld k1 k53 hL23 hr1 hg3
  have H55 := Lib.hid hq5
  clear hq5
  go_upto_region 5 with (first
   | (with_reducible refine wpList_alloc rfl 25 rfl (allocH _) ?_)
   | fail)
  obtain ⟨q8, hq8⟩ : ∃ q, q = w3.heap.size := ⟨_, rfl⟩
  rw [<- hq8] at k8 hlt5 hlt33 ⊢
  generalize w3.alloc (.cells (hC []) 25) = w4 at *
  have H85 := Lib.hid hq8
  clear hq8
  go_upto_region 6 with (first
   | (refine wpList_slice0 rfl 25 (.tmp 8) rfl (.pointer (some ⟨q8, 0, none⟩)) rfl (sliceHash w4) ?_)
   | (refine wpList_copy_rd rfl (.tmp 20) (.tmp 21) 60 60 rfl 5 Tryz.underlying60 (by kernel_rfl) q8 0 32 32 A 32 c (l.take 32) (by rw [List.length_take, HN.out]; omega) (Rd.take hr3 32) rfl rfl _ _ k8 32 (by decide) (by rw [hC_size _ (by decide)]; decide) ?_; intro w5 k85 hg5)
   | fail)
  rw [show (l.take 32).take 32 = l.take 32 by rw [List.take_take]; rfl, whC_set l (by rw [HN.out]; omega)] at k85
  have hne : ∀ k, k < q8 -> some k ≠ some q8 := fun k h e => by have := Option.some.inj e; omega
  have k55 := k53a.grown hg5 (hne q5 hlt5)
  have k25 := k23.grown hg5 (hne (q + 1) (by omega))
  have k35 := k33.grown hg5 (hne (q + 1 + 1) (by omega))
  have hb5 : Later w w5 := hb3.grown hg5 hb3.size (fun j e => by cases e; have := HQ.out; omega)
  have h25 : q5 ≠ q + 1 := by have := H55.out; omega
  have h35 : q5 ≠ q + 1 + 1 := by have := H55.out; omega
  have h28 : q8 ≠ q + 1 := by omega
  have h38 : q8 ≠ q + 1 + 1 := by omega
  have hqw : ∀ j, some (q + 1) = some j -> w.heap.size <= j := fun j e => by cases e; have := HQ.out; omega
  have hqw2 : ∀ j, some (q + 1 + 1) = some j -> w.heap.size <= j := fun j e => by cases e; have := HQ.out; omega
  clear k53a k23 k33 hb3 hg5 hne hlt5 hlt3 hlt33 k8
  have hlen : (l.take 32).length = 32 := by rw [List.length_take, HN.out]; omega
  generalize hTT : l.take 32 = T at *
  refine (wpIn_wide (n := 0)).1 ?_
  refine wpIn_region_lastY wide_wide (fun f xs W => Later w W /\ Row W q5 89 (rfV D (n - 32) (c - 32) false) /\ Row W q8 25 (hC T) /\ (f 0 = true -> xs 0 = .agg (rfV D (n - 32) (c - 32) false)) /\ (f 1 = true -> xs 1 = .agg (hC T)) /\ Row W (q + 1) 89 (if f 2 then rfV D (n - 32) (c - 32) false else rfV none 0 0 false) /\ Row W (q + 1 + 1) 25 (if f 3 then hC T else hC [])) ⟨hb5.drew, k55.drew, k85.drew, by simp, by simp, k25.drew, k35.drew⟩ (by kernel_rfl) (by kernel_rfl) (by kernel_rfl) (by kernel_rfl) (by kernel_rfl) (by kernel_rfl) rfl ⟨?_, ?_, ?_, ?_, trivial⟩ ?_
  ·intro a W f xs hI he
   obtain ⟨i0, i1, i2, i3, i4, i5, i6⟩ := hI
   refine stepOkY_later rfl ?_ (op_load (R := fun v W' => v = .agg (rfV D (n - 32) (c - 32) false)) rfl (he.k 5) (loadRf i1) rfl)
   rintro v W' hL rfl
   exact ⟨i0.step hL, i1.later hL, i2.later hL, fun _ => rfl, fun h => i4 h, i5.later hL, i6.later hL⟩
  ·intro a W f xs hI he
   obtain ⟨i0, i1, i2, i3, i4, i5, i6⟩ := hI
   refine stepOkY_later rfl ?_ (op_load (R := fun v W' => v = .agg (hC T)) rfl (he.k 8) (loadH hlen i2) rfl)
   rintro v W' hL rfl
   exact ⟨i0.step hL, i1.later hL, i2.later hL, fun h => i3 h, fun _ => rfl, i5.later hL, i6.later hL⟩
  ·intro a W f xs hI he
   obtain ⟨i0, i1, i2, i3, i4, i5, i6⟩ := hI
   have hf2 : f 2 = false := he.todo
   have hf0 : f 0 = true := he.done 0 (by kernel_rfl)
   have e0 : a.eval (.tmp 23) = .agg (rfV D (n - 32) (c - 32) false) := (he.v 0 23).trans (i3 hf0)
   rw [hf2] at i5
   obtain ⟨W', hst, hrow', hg'⟩ := storeRf (A' := D) (n' := n - 32) (c' := c - 32) (bad' := false) i5
   exact stepOkY_want rfl (op_storeK rfl (he.k 2) e0 hst ⟨_, rfl, i0.grown hg' i0.size hqw, i1.grown hg' (fun e => h25 (Option.some.inj e)), i2.grown hg' (fun e => h28 (Option.some.inj e)), fun h => i3 h, fun h => i4 h, hrow', i6.grown hg' (by simp)⟩)
  ·intro a W f xs hI he
   obtain ⟨i0, i1, i2, i3, i4, i5, i6⟩ := hI
   have hf3 : f 3 = false := he.todo
   have hf1 : f 1 = true := he.done 1 (by kernel_rfl)
   have e1 : a.eval (.tmp 24) = .agg (hC T) := (he.v 1 24).trans (i4 hf1)
   rw [hf3] at i6
   obtain ⟨W', hst, hrow', hg'⟩ := storeH (a := []) (b := T) (by simp) (by omega) i6
   exact stepOkY_want rfl (op_storeK rfl (he.k 3) e1 hst ⟨_, rfl, i0.grown hg' i0.size hqw2, i1.grown hg' (fun e => h35 (Option.some.inj e)), i2.grown hg' (fun e => h38 (Option.some.inj e)), fun h => i3 h, fun h => i4 h, i5.grown hg' (by simp), hrow'⟩)
  ·intro f xs W hI hd _ hk hgt
   obtain ⟨i0, i1, i2, i3, i4, i5, i6⟩ := hI
   have f2 := hd 2 (by decide)
   have f3 := hd 3 (by decide)
   rw [f2] at i5
   rw [f3] at i6
   refine last_assign (vx := .int .i64 0) rfl rfl ?_
   clear hk hgt
   simp only [initL, lastL, putL, Nat.reduceAdd, Act.put, List.setIfInBounds_toArray, List.set_cons_succ, List.set_cons_zero]
   go_wp2_with fail
   exact bodyPost_ret (results_cells2 rfl rfl rfl rfl i5 i6 Tryz.underlying89 rfl infoRf Tryz.underlying25 rfl (by rw [if_pos trivial, hC_size T (by omega)]; exact infoH)) rfl (HΦ.out _ _ ⟨i0, _, rfl, D, c - 32, by rw [List.length_drop, HN.out]; rfl, by rw [List.length_drop, HN.out]; omega, by omega, fun X h => hD X h⟩)
 ·have e1 : Wr.hashR l bad = ((l, true), [], 140) := by
   unfold Wr.hashR
   cases bad
   ·have h0 : ¬ 32 <= l.length := fun h => hok ⟨rfl, by rw [<- HN.out]; exact h⟩
    simp [h0]
   ·rfl
  rw [e1] at HΦ
  clear e1
  go_upto_region 3 with (first
   | (refine wpList_load rfl 89 (.tmp 1) rfl (.pointer (some ⟨q, 0, none⟩)) rfl hld ?_)
   | (go_at_call 89; refine htk.mono ?_; clear htk; rintro e w2 ⟨hL2, ⟨h1, h2, _⟩ | ⟨_, rfl⟩⟩; exact absurd ⟨h1, h2⟩ hok; obtain ⟨w3, hst, k53, hg3⟩ := storeRf (A' := A) (n' := n) (c' := c) (bad' := true) (Row.new w2 89 (rfV none 0 0 false)))
   | (with_reducible refine wpList_alloc rfl 89 rfl (allocRf _) ?_)
   | (refine wpList_store rfl 89 (.tmp 5) (.tmp 12) rfl (.pointer (some ⟨w2.heap.size, 0, none⟩)) (.agg (rfV A n c true)) rfl rfl hst ?_)
   | fail)
  have hL23 : Later w2 w3 := ((Later.refl w2).alloc (.cells (rfV none 0 0 false) 89)).grown hg3 (by simp) (fun j e => by cases e; omega)
  have k23 := k2.later (hL2.step hL23)
  have k33 := k3.later (hL2.step hL23)
  have hb3 := hb.step (hL2.step hL23)
  obtain ⟨w4, hst4, k24, hg4⟩ := storeRf (A' := A) (n' := n) (c' := c) (bad' := true) k23
  have k34 := k33.grown hg4 (by simp)
  obtain ⟨w5, hst5, k35, hg5⟩ := storeH (a := []) (b := []) (by simp) (by simp) k34
  have k25 := k24.grown hg5 (by simp)
  have hb4 := hb3.grown hg4 hb3.size (fun j e => by cases e; have := HQ.out; omega)
  have hb5 := hb4.grown hg5 hb4.size (fun j e => by cases e; have := HQ.out; omega)
  have hld5 := loadRf k53
  have H5 := Lib.hid hb5
  clear hst hg3 hL23 hg4 hg5 hb4 hb5
  go_wp2_with (first
   | (refine wpList_load rfl 89 (.tmp 5) rfl (.pointer (some ⟨w2.heap.size, 0, none⟩)) rfl hld5 ?_)
   | (refine wpList_build rfl 25 #[] rfl #[] rfl (wbuildH0 _) ?_)
   | (refine wpList_store rfl 89 (.tmp 2) (.tmp 17) rfl (.pointer (some ⟨q + 1, 0, none⟩)) (.agg (rfV A n c true)) rfl rfl hst4 ?_)
   | (refine wpList_store rfl 25 (.tmp 3) (.tmp 18) rfl (.pointer (some ⟨q + 1 + 1, 0, none⟩)) (.agg (hC [])) rfl rfl hst5 ?_)
   | fail)
  exact bodyPost_ret (results_cells2 rfl rfl rfl rfl k25 k35 Tryz.underlying89 rfl infoRf Tryz.underlying25 rfl (by rw [hC_size [] (by decide)]; exact infoH)) rfl (HΦ.out _ _ ⟨H5.out, _, rfl, A, c, by rw [<- HN.out], by rw [<- HN.out] at hc; exact hc, by omega, fun _ h => h⟩)
theorem Rd.grown_rf {w w' : World} {q : Nat} {t : TypeId} {A D : Option Addr} {n c : Nat} {bad : Bool} {T : List UInt8} (h : Rd w D T) (hr : Row w q t (rfV A n c bad)) (hg : w.grownBy w' (some q)) : Rd w' D T := h.grown hg fun b o e hne e2 => by
 subst e
 obtain ⟨b', o', e', hc'⟩ := h hne
 have h9 := hc' 0 (List.length_pos_iff.2 hne)
 injection e' with e'
 injection e' with e1 e3
 subst e1
 exact rf_no_byte hr h9 (Option.some.inj e2)
theorem Wr.textR_no {l : List UInt8} {bad : Bool} {most : Int} (h : (Wr.numR l bad most).2.2 ≠ 0) : Wr.textR l bad most = ((Wr.numR l bad most).1, [], (Wr.numR l bad most).2.2) := by
 unfold Wr.numR at h
 unfold Wr.textR Wr.numR
 cases bad
 ·by_cases h0 : most < 0
  ·simp [h0]
  ·by_cases hm : Wr.may l most
   ·simp [h0, hm] at h
   ·simp [h0, hm, Wr.textOk]
 ·simp
theorem Wr.numR_yes {l : List UInt8} {bad : Bool} {most : Int} (h : (Wr.numR l bad most).2.2 = 0) : bad = false /\ ¬ most < 0 /\ Wr.may l most /\ Wr.numR l bad most = ((l.drop (Wr.first l).2.toNat, false), ((Wr.first l).1 : Int), 0) := by
 unfold Wr.numR at h ⊢
 cases bad
 ·by_cases h0 : most < 0
  ·simp [h0] at h
  ·by_cases hm : Wr.may l most
   ·simp [h0, hm]
   ·simp [h0, hm] at h
 ·simp at h
theorem refTextR_any (A : Option Addr) (n c : Nat) (l : List UInt8) (bad : Bool) (most : Int) (w : World) (hn : l.length = n) (hc : n <= c) (hcm : c <= 9223372036854775807) (hnm : n <= 9223372036854775000) (hr : Rd w A l) :
  Calls Tryz.prog 43 #[.agg (rfV A n c bad), .int .i64 most] w fun e w' => Later w w' /\ ∃ v, e = .returned (.tuple #[v, .string ⟨(Wr.textR l bad most).2.1.toArray⟩, .int .i64 (Wr.textR l bad most).2.2]) /\ RefV A l v (Wr.textR l bad most).1.1 (Wr.textR l bad most).1.2 := by
 have k2 := (Row.new w 89 (rfV A n c bad)).alloc (.cells (rfV none 0 0 false) 89)
 have k4 := Row.new (w.alloc (.cells (rfV A n c bad) 89)) 89 (rfV none 0 0 false)
 have hb := (((Later.refl w).alloc (.cells (rfV A n c bad) 89)).alloc (.cells (rfV none 0 0 false) 89))
 refine Calls.post fun Φ HΦ => ?_
 go_enter Tryz.func43, Tryz.ntmps43
 go_upto_region 1 with (first
  | (with_reducible refine wpList_alloc rfl 89 rfl (allocRf _) ?_)
  | fail)
 simp only [World.size_alloc] at k4 ⊢
 obtain ⟨q, hq⟩ : ∃ q, q = w.heap.size := ⟨_, rfl⟩
 rw [<- hq] at k2 k4 ⊢
 generalize (w.alloc (.cells (rfV A n c bad) 89)).alloc (.cells (rfV none 0 0 false) 89) = w1 at *
 have HQ := Lib.hid hq
 have HN := Lib.hid hn
 clear hq hn
 have hld := loadRf k2
 have hr1 := hr.later hb
 have hnum := refNumberR_any A n c l bad most w1 HN.out hc (by omega) hnm hr1
 have hno := @Wr.textR_no l bad most
 have hyes := @Wr.numR_yes l bad most
 obtain ⟨R, hR⟩ : ∃ R, Wr.numR l bad most = R := ⟨_, rfl⟩
 rw [hR] at hnum hno hyes
 obtain ⟨⟨l', bad'⟩, x, no⟩ := R
 simp only at hno hyes hnum
 have HNO := Lib.hid hno
 have HYES := Lib.hid hyes
 clear hno hyes hR
 go_upto_region 2 with (first
  | (refine wpList_load rfl 89 (.tmp 2) rfl (.pointer (some ⟨q, 0, none⟩)) rfl hld ?_)
  | (go_at_call 42; refine hnum.mono ?_; clear hnum; rintro e w2 ⟨hL2, v, rfl, D, c2, rfl, hcc, hcm2, hD⟩; obtain ⟨w3, hst, k73, hg3⟩ := storeRf (A' := D) (n' := l'.length) (c' := c2) (bad' := bad') (Row.new w2 89 (rfV none 0 0 false)))
  | (with_reducible refine wpList_alloc rfl 89 rfl (allocRf _) ?_)
  | (refine wpList_store rfl 89 (.tmp 7) (.tmp 15) rfl (.pointer (some ⟨w2.heap.size, 0, none⟩)) (.agg (rfV D l'.length c2 bad')) rfl rfl hst ?_)
  | fail)
 have hL23 : Later w2 w3 := ((Later.refl w2).alloc (.cells (rfV none 0 0 false) 89)).grown hg3 (by simp) (fun j e => by cases e; omega)
 have k43 := k4.later (hL2.step hL23)
 have k23 := k2.later (hL2.step hL23)
 have hb3 := hb.step (hL2.step hL23)
 have hlt4 := (k4.later hL2).lt
 obtain ⟨q7, hq7⟩ : ∃ q, q = w2.heap.size := ⟨_, rfl⟩
 rw [<- hq7] at k73 hlt4 ⊢
 have hld7 := loadRf k73
 have h47 : q7 ≠ q + 1 := by omega
 have h27 : q ≠ q7 := by omega
 have hr3 := hr1.later (hL2.step hL23)
 have hqw : ∀ j, some (q + 1) = some j -> w.heap.size <= j := fun j e => by cases e; have := HQ.out; omega
 have hq7w : ∀ j, some q7 = some j -> w.heap.size <= j := fun j e => by cases e; have := HQ.out; have := hlt4; omega
 clear hst hg3 hld k2 k4 hb hr1 hL23 hlt4 hL2
 have H7 := Lib.hid hq7
 clear hq7
 by_cases h0 : no = 0
 ·subst h0
  obtain ⟨hbad, hm0, hmay, hnr⟩ := HYES.out rfl
  subst hbad
  simp only [Prod.mk.injEq, and_true] at hnr
  obtain ⟨⟨rfl, rfl⟩, rfl⟩ := hnr
  obtain ⟨hf1, hf2, hf3⟩ := Wr.first_le l
  have hx : Wr.textR l false most = if Wr.textOk l most then ((Wr.textRest l, false), Wr.textAt l, 0) else ((l, true), [], 140) := by unfold Wr.textR; rw [if_neg (by simp), if_neg (by omega)]
  have hok : Wr.textOk l most = decide ((Wr.first l).1 <= l.length - (Wr.first l).2.toNat) := by simp [Wr.textOk, hmay]
  have hat : Wr.textAt l = (l.drop (Wr.first l).2.toNat).take (Wr.first l).1 := rfl
  have hre : Wr.textRest l = (l.drop (Wr.first l).2.toNat).drop (Wr.first l).1 := rfl
  rw [hx, hok] at HΦ
  generalize Wr.textAt l = T at *
  generalize Wr.textRest l = S at *
  have hll : (l.drop (Wr.first l).2.toNat).length = n - (Wr.first l).2.toNat := by rw [List.length_drop, HN.out]
  rw [<- List.length_drop] at HΦ
  generalize Wr.first l = F at *
  obtain ⟨f, s⟩ := F
  simp only at hf1 hf2 hf3 hat hre hll HΦ k73 hld7 hcc hD ⊢
  generalize hdl : l.drop s.toNat = dl at *
  clear hx hok hmay HYES HNO hnm
  have htk := refTake_any D dl.length c2 dl false f w3 rfl hcc (by omega) (by omega)
  have hrd := hD _ hr3
  have HAT := Lib.hid hat
  have HRE := Lib.hid hre
  have HD := Lib.hid hD
  have HLL := Lib.hid hll
  clear hat hre hdl hll hf1 hf2 hf3 hm0 hD
  by_cases hf : f <= dl.length
  ·rw [if_pos (decide_eq_true hf)] at HΦ
   go_upto_region 5 with (first
    | (refine wpList_load rfl 89 (.tmp 7) rfl (.pointer (some ⟨q7, 0, none⟩)) rfl hld7 ?_)
    | (go_at_call 89; refine htk.mono ?_; clear htk; rintro e w4 ⟨hL4, ⟨_, _, D2, rfl, hD2⟩ | ⟨h, _⟩⟩; rotate_left; exact absurd h (by simp; omega); obtain ⟨w5, hst, k75, hg5⟩ := storeRf (A' := D2) (n' := dl.length - f) (c' := c2 - f) (bad' := false) (k73.later hL4))
    | (refine wpList_store rfl 89 (.tmp 7) (.tmp 26) rfl (.pointer (some ⟨q7, 0, none⟩)) (.agg (rfV D2 (dl.length - f) (c2 - f) false)) rfl rfl hst ?_)
    | fail)
   have k45 := (k43.later hL4).grown hg5 (fun e => h47 (Option.some.inj e).symm)
   have hb4 := hb3.step hL4
   have hb5 : Later w w5 := hb4.grown hg5 hb4.size hq7w
   have hrd5 : Rd w5 D T := by
    rw [HAT.out]
    exact Rd.take ((hrd.later hL4).grown_rf (k73.later hL4) hg5) f
   have hTl : T.length = f := by rw [HAT.out, List.length_take]; omega
   have hSl : S.length = dl.length - f := by rw [HRE.out, List.length_drop]
   have hmv : RefV A l (.agg (rfV D2 (dl.length - f) (c2 - f) false)) S false := ⟨D2, c2 - f, by rw [hSl], by rw [hSl]; omega, by omega, fun X h => by rw [HRE.out]; exact hD2 X (HD.out X h)⟩
   have HMV := Lib.hid hmv
   have HST := Lib.hid hTl
   clear hst hg5 hb4 hmv hld7 k23 hL4 hTl hSl hD2 hrd hr3
   go_upto_region 7 with fail
   refine (wpIn_wide (n := 0)).1 ?_
   refine wpIn_region_pivot wide_wide 3 [.agg (rfV D2 (dl.length - f) (c2 - f) false), .slice D f c2, .string ⟨T.toArray⟩, undef, .string ⟨T.toArray⟩] (fun W => Later w5 W) (fun y W => Later w W /\ Row W q7 89 (rfV D2 (dl.length - f) (c2 - f) false) /\ Row W (q + 1) 89 (rfV D2 (dl.length - f) (c2 - f) false) /\ Rd W D T) (fun W W' h k => k.step h) (fun y W W' h k => ⟨k.1.step h, k.2.1.later h, k.2.2.1.later h, k.2.2.2.later h⟩) (Later.refl _) (by kernel_rfl) (by kernel_rfl) (by kernel_rfl) (by kernel_rfl) (by kernel_rfl) (by kernel_rfl) rfl (by kernel_rfl) (by kernel_rfl) ⟨?_, ?_, ?_, ?_, ?_, trivial⟩ ?_
   ·exact fun ac W dd xx he => stepOk_want rfl (op_load rfl (he.k 7) (loadRf (he.both (C := fun W => Row W q7 89 (rfV D2 (dl.length - f) (c2 - f) false)) (fun W h => k75.later h) (fun y W h => h.2.1))) rfl)
   ·exact fun ac W dd xx he => stepOk_want rfl (op_move rfl (he.k 10))
   ·exact fun ac W dd xx he => stepOk_want rfl (op_convert rfl (show ac.eval (.tmp 36) = .slice D f c2 from he.v 1 36) (run_string_rd (P := Tryz.prog) W 60 9 5 D f c2 T Tryz.underlying60 Tryz.underlying5 Tryz.underlying9 HST.out (he.both (C := fun W => Rd W D T) (fun W h => hrd5.later h) (fun y W h => h.2.2.2))) (Later.refl _) rfl)
   ·intro ac W he hA; refine ⟨rfl, ?_⟩; have e4 := (he.k 4); have e35 := (show ac.eval (.tmp 35) = .agg (rfV D2 (dl.length - f) (c2 - f) false) from he.v 0 35); obtain ⟨W', hst, hrow', hg'⟩ := storeRf (A' := D2) (n' := dl.length - f) (c' := c2 - f) (bad' := false) (k45.later hA); exact op_storeK rfl e4 e35 hst ⟨_, rfl, (hb5.step hA).grown hg' (hb5.step hA).size hqw, (k75.later hA).grown hg' (fun e => h47 (Option.some.inj e)), hrow', (hrd5.later hA).grown_rf (k45.later hA) hg'⟩
   ·exact fun ac W dd xx he => stepOk_want rfl (op_assign rfl (show ac.eval (.tmp 37) = .string ⟨T.toArray⟩ from he.v 2 37))
   ·intro xs W y hB hx hk hg
    refine last_assign (vx := .int .i64 0) rfl rfl ?_
    have e4 := hx 4 (by decide)
    obtain ⟨hB1, _, hB3, _⟩ := hB
    clear hx hk hg
    simp only [initL, lastL, putL, Nat.reduceAdd, Act.put, List.setIfInBounds_toArray, List.set_cons_succ, List.set_cons_zero]
    rw [e4]
    go_wp2_with fail
    exact bodyPost_ret (results_cell_tmp2 rfl _ _ (q + 1) 89 (rfV D2 (dl.length - f) (c2 - f) false) (0, 0) _ (.string ⟨T.toArray⟩) (.int .i64 0) rfl rfl rfl hB3 Tryz.underlying89 rfl infoRf) rfl (HΦ.out _ _ ⟨hB1, _, rfl, HMV.out⟩)
  ·rw [if_neg (by simpa using hf)] at HΦ
   go_upto_region 5 with (first
    | (refine wpList_load rfl 89 (.tmp 7) rfl (.pointer (some ⟨q7, 0, none⟩)) rfl hld7 ?_)
    | (go_at_call 89; refine htk.mono ?_; clear htk; rintro e w4 ⟨hL4, ⟨_, h, _⟩ | ⟨_, rfl⟩⟩; exact absurd h hf; obtain ⟨w5, hst, k75, hg5⟩ := storeRf (A' := D) (n' := dl.length) (c' := c2) (bad' := true) (k73.later hL4))
    | (refine wpList_store rfl 89 (.tmp 7) (.tmp 26) rfl (.pointer (some ⟨q7, 0, none⟩)) (.agg (rfV D dl.length c2 true)) rfl rfl hst ?_)
    | fail)
   have k45 := (k43.later hL4).grown hg5 (fun e => h47 (Option.some.inj e).symm)
   have k25 := (k23.later hL4).grown hg5 (fun e => h27 (Option.some.inj e))
   have c25 : w5.cell? ⟨q, 0, none⟩ = some (.slice A n c) := (k25.cell 0).trans rfl
   have hb4 := hb3.step hL4
   have hb5 : Later w w5 := hb4.grown hg5 hb4.size hq7w
   obtain ⟨w6, hst6, k46, hg6⟩ := storeRf (A' := A) (n' := n) (c' := c) (bad' := true) k45
   have hb6 := hb5.grown hg6 hb5.size hqw
   have H6 := Lib.hid hb6
   clear hst hg5 hg6 hb4 hb5 hb6
   go_wp2_with (first
    | (refine wpList_store rfl 89 (.tmp 4) (.tmp 33) rfl (.pointer (some ⟨q + 1, 0, none⟩)) (.agg (rfV A n c true)) rfl rfl hst6 ?_)
    | fail)
   exact bodyPost_ret (results_cell_tmp2 rfl _ _ (q + 1) 89 (rfV A n c true) (0, 0) _ (.string ⟨#[]⟩) (.int .i64 140) rfl rfl rfl k46 Tryz.underlying89 rfl infoRf) rfl (HΦ.out _ _ ⟨H6.out, _, rfl, A, c, by rw [<- HN.out], by rw [<- HN.out] at hc; exact hc, by omega, fun _ h => h⟩)
 ·have e1 := HNO.out h0
  rw [e1] at HΦ
  obtain ⟨w4, hst4, k44, hg4⟩ := storeRf (A' := D) (n' := l'.length) (c' := c2) (bad' := bad') k43
  have hb4 := hb3.grown hg4 hb3.size hqw
  have H4 := Lib.hid hb4
  have hd : (no == 0) = false := by simpa using h0
  clear hg4 hb4 e1
  go_wp2_with (first
   | (refine wpList_load rfl 89 (.tmp 7) rfl (.pointer (some ⟨q7, 0, none⟩)) rfl hld7 ?_)
   | (refine wpList_store rfl 89 (.tmp 4) (.tmp 20) rfl (.pointer (some ⟨q + 1, 0, none⟩)) (.agg (rfV D l'.length c2 bad')) rfl rfl hst4 ?_)
   | fail)
  exact bodyPost_ret (results_cell_tmp2 rfl _ _ (q + 1) 89 (rfV D l'.length c2 bad') (0, 0) _ (.string ⟨#[]⟩) (.int .i64 no) rfl rfl rfl k44 Tryz.underlying89 rfl infoRf) rfl (HΦ.out _ _ ⟨H4.out, _, rfl, D, c2, rfl, hcc, hcm2, hD⟩)
def Low {β : Type} (C : Nat -> Prop) (B : Nat) (J : β -> World -> Prop) : Prop := ∀ s X Y, J s X -> Same (fun k => k < B /\ ¬ C k) X Y -> J s Y
theorem Low.below {β : Type} {C : Nat -> Prop} {B : Nat} {J : β -> World -> Prop} (h : Low C B J) {s : β} {X Y : World} (hs : J s X) (hb : Below B X Y) : J s Y := h s X Y hs ((Same.of_below hb).mono fun k hk => hk.1)
def SeqW {α : Type} (F : Fence) (n : Nat) (P : Program) (g : Nat) (lb : Array Value) (encs : α -> Array Value) (Kp : α -> World -> World -> Prop) (S Sp : List α -> Prop) (Ok : List α -> α -> World -> Prop) (C : Nat -> Prop) (W : World) : Prop :=
 ∀ (l : Nat) (J Jx : List α -> World -> Prop) (W1 : World), Below W.heap.size W W1 -> W.heap.size + 2 <= W1.heap.size -> Low C W1.heap.size J -> Low C W1.heap.size Jx ->
  (∀ pre x X, J pre X -> Ok pre x X -> YieldAt F (n - 1) P l (encs x) X fun e Y => (e = .returned (.bool true) /\ J (pre ++ [x]) Y /\ Kp x X Y) \/ (e = .returned (.bool false) /\ Jx (pre ++ [x]) Y /\ Kp x X Y)) ->
  J [] W1 -> CallsIn F n P g (#[.func (.yield l) #[] #[]] ++ lb) W1 fun e Y => (∃ v, e = .returned v) /\ ((∃ xs, S xs /\ J xs Y) \/ ∃ pre, Sp pre /\ Jx pre Y)
def leftW {α : Type} (B : Nat) (Kp : World -> World -> Prop) (I : List α -> World -> Prop) (Ix : Code -> List α -> World -> Prop) (xs : List α) (W : World) : Exit -> Act -> World -> Prop
 | .normal, _, Y => KeepsFrom B W Y /\ Kp W Y /\ I xs Y
 | .ret, _, Y => KeepsFrom B W Y /\ Kp W Y /\ Ix .ret xs Y
 | .exit id, _, Y => KeepsFrom B W Y /\ Kp W Y /\ Ix (.exit id) xs Y
 | .goto t, _, Y => KeepsFrom B W Y /\ Kp W Y /\ Ix (.goto t) xs Y
 | .panic _, _, _ => False
 | .outgrown, _, _ => False
theorem below_put (B : Nat) (X : World) (l : Nat) (o : Obj) (hl : B <= l) (hs : B <= X.heap.size) : Below B X (X.putObj l o) :=
 (Below.refl B X).grown (grownBy_putObj' X l o) hs (fun k e => by cases e; exact hl)
section
variable {F : Fence} {n : Nat} {P : Program}
theorem wpIn_range_W {α : Type} {g : Operand} {ps : Array Tmp} {assign body : Code} {Q : Exit -> Act -> World -> Prop} {a : Act} {w : World}
  (hro : F.round = none) (h1 : 1 <= n) {gf : Nat} {lb : Array Value} (hg : a.eval g = .func (.func gf) #[] lb) (hFg : F.fn gf) (eg : ∀ args w, (callFunc gf args).run P w = .ok (.enter gf args) w)
  {encs : α -> Array Value} {Kp : α -> World -> World -> Prop} {S Sp : List α -> Prop} {Ok : List α -> α -> World -> Prop} {C : Nat -> Prop} {w0 : World} (hseq : SeqW F (n - 1) P gf lb encs Kp S Sp Ok C w0) (hC : ∀ r, C r -> r < w.heap.size)
  (hKt : ∀ {x : α} {A B D : World}, Kp x A B -> Kp x B D -> Kp x A D) (hKb : ∀ (x : α) (W : World) (o : Obj), Kp x W (W.putObj (w.heap.size + 1) o)) (hb0 : Below w0.heap.size w0 w) (hps : ∀ x, (encs x).size = ps.size)
  (I : List α -> World -> Prop) (Ix : Code -> List α -> World -> Prop) (hI : Low C w.heap.size I) (hIx : ∀ c, Low C w.heap.size (Ix c)) (h0 : I [] w)
  (Ax : List α -> α -> Act -> World -> Prop) (hAx : ∀ pre x a' W o, Ax pre x a' W -> Ax pre x a' (W.putObj (w.heap.size + 1) o))
  (hassign : ∀ (l : Nat) (pre : List α) (x : α) (W : World) (K : Act -> World -> Prop), w.heap.size + 2 <= W.heap.size -> I pre W -> Ok pre x W -> (∀ a' Y, KeepsFrom w.heap.size W Y -> Kp x W Y -> I pre Y -> Ax pre x a' Y -> K a' Y) ->
   assign.wpIn (F.inRound l) (n - 1 - 1) P (Exit.then K (fun _ _ _ => False)) { tmps := (ps.zip (encs x)).foldl (fun t (p, v) => t.setIfInBounds p v) a.tmps, defers := [] } W)
  (hbody : ∀ (l : Nat) (pre : List α) (x : α) (a' : Act) (W : World), w.heap.size <= l -> (∃ r, W.heap[l]? = some (.loop r)) -> w.heap.size + 2 <= W.heap.size -> I pre W -> Ax pre x a' W -> body.wpIn (F.inRound l) (n - 1 - 1) P (leftW w.heap.size (Kp x) I Ix (pre ++ [x]) W) a' W)
  (hdone : ∀ (D : Nat) (xs : List α) (W : World), w.heap.size <= D -> S xs -> I xs W -> W.heap[D]? = some (.deferred (some [])) -> Q .normal { a with defers := { target := .collected D, args := #[] } :: a.defers } W)
  (hstop : ∀ (D : Nat) (c : Code) (pre : List α) (W : World), w.heap.size <= D -> Sp pre -> Ix c pre W -> W.heap[D]? = some (.deferred (some [])) -> c.wpIn F n P Q { a with defers := { target := .collected D, args := #[] } :: a.defers } W) :
  (Code.rangeFunc g ps assign body).wpIn F n P Q a w := by
 refine wpIn_rangeFunc fun fn hfn => ?_
 rw [hro]
 have book1 : Booked (bookOf fn a.tmps ps assign body w.heap.size) w.heap.size .ready none ((w.alloc (.deferred (some []))).alloc (.loop (bookOf fn a.tmps ps assign body w.heap.size .ready none))) := by
  refine ⟨?_, (Below.heap_alloc _ _ _ (by simp)).trans (World.alloc_heap_new w _)⟩
  have := World.alloc_heap_new (w.alloc (.deferred (some []))) (.loop (bookOf fn a.tmps ps assign body w.heap.size .ready none))
  rwa [World.size_alloc] at this
 have hbw : Below w.heap.size w ((w.alloc (.deferred (some []))).alloc (.loop (bookOf fn a.tmps ps assign body w.heap.size .ready none))) :=
  (((Below.refl _ w).alloc (Nat.le_refl _) _).alloc (by simp) _)
 have hb1 : Below w0.heap.size w0 ((w.alloc (.deferred (some []))).alloc (.loop (bookOf fn a.tmps ps assign body w.heap.size .ready none))) := hb0.trans (hbw.mono hb0.size)
 have hi1 := hI.below h0 hbw
 have hsz1 : ((w.alloc (.deferred (some []))).alloc (.loop (bookOf fn a.tmps ps assign body w.heap.size .ready none))).heap.size = w.heap.size + 2 := by simp
 have henter := run_enterLoop_outer (P := P) (w := w) fn a.tmps ps assign body
 generalize hW1 : (w.alloc (.deferred (some []))).alloc (.loop (bookOf fn a.tmps ps assign body w.heap.size .ready none)) = W1 at book1 hb1 hi1 hsz1
 refine ⟨w.heap.size + 1, [{ target := .collected w.heap.size, args := #[] }], W1, { target := .fn (.func gf) lb, args := #[.func (.yield (w.heap.size + 1)) #[] #[]] }, W1, gf,
  #[.func (.yield (w.heap.size + 1)) #[] #[]] ++ lb, W1, ?_, ?_, ?_, ?_, fun _ => h1, ?_⟩
 ·rw [<- hW1]; exact henter
 ·simp only [resolve, hg]; simp [go_sem]
 ·intro f' hf'; simp [Target.leads] at hf'; subst hf'; exact hFg
 ·simp [invoke, go_sem, eg]
 clear henter hW1 hbw
 have hput : ∀ {s : List α} {X : World} (o : Obj), w.heap.size <= X.heap.size -> I s X -> I s (X.putObj (w.heap.size + 1) o) := fun o hs h => hI.below h (below_put _ _ _ _ (by omega) hs)
 have hputx : ∀ {c : Code} {s : List α} {X : World} (o : Obj), w.heap.size <= X.heap.size -> Ix c s X -> Ix c s (X.putObj (w.heap.size + 1) o) := fun o hs h => (hIx _).below h (below_put _ _ _ _ (by omega) hs)
 have hbook : ∀ {st : LoopState} {pe : Option Code} {X Y : World}, Booked (bookOf fn a.tmps ps assign body w.heap.size) w.heap.size st pe X -> Same (fun k => k < W1.heap.size /\ ¬ C k) X Y -> Booked (bookOf fn a.tmps ps assign body w.heap.size) w.heap.size st pe Y := fun h hb => ⟨(hb.block _ ⟨by omega, fun h => by have := hC _ h; omega⟩).trans h.loop, (hb.block _ ⟨by omega, fun h => by have := hC _ h; omega⟩).trans h.defs⟩
 have hbs : ∀ {st : LoopState} {pe : Option Code} {X : World}, Booked (bookOf fn a.tmps ps assign body w.heap.size) w.heap.size st pe X -> w.heap.size + 2 <= X.heap.size := fun h => by have := (Array.getElem?_eq_some_iff.1 h.loop).1; omega
 refine (hseq (w.heap.size + 1) (fun pre W => I pre W /\ Booked (bookOf fn a.tmps ps assign body w.heap.size) w.heap.size .ready none W)
  (fun pre W => ∃ c, Ix c pre W /\ Booked (bookOf fn a.tmps ps assign body w.heap.size) w.heap.size .done (some c) W) W1 hb1 (by have := hb0.size; omega)
  (fun s X Y hs hb => ⟨hI _ _ _ hs.1 (hb.mono fun k hk => ⟨by have := hk.1; omega, hk.2⟩), hbook hs.2 hb⟩)
  (fun s X Y hs hb => by obtain ⟨c, hc, hk⟩ := hs; exact ⟨c, hIx c _ _ _ hc (hb.mono fun k hk => ⟨by have := hk.1; omega, hk.2⟩), hbook hk hb⟩)
  (fun pre x X hX hok => ?_) ⟨hi1, book1⟩).mono ?_
 ·obtain ⟨hi, hbk⟩ := hX
  refine ⟨fn, _, assign, body, run_yield (P := P) (args := encs x) hbk.loop (hps x), roundIn_of_wpIn hfn (hassign _ pre x X _ (hbs hbk) hi hok ?_)⟩
  intro a' Y hkf hkp hiY hax
  have hbY := hbk.keeps hkf
  refine ⟨_, run_beginRound hbY.loop rfl, ?_⟩
  have hbZ : Booked (bookOf fn a.tmps ps assign body w.heap.size) w.heap.size .busy none (Y.putObj (w.heap.size + 1) (.loop { bookOf fn a.tmps ps assign body w.heap.size .ready none with state := .busy })) := hbY.turn
  refine wpIn_mono (hbody _ pre x a' _ (by omega) ⟨_, hbZ.loop⟩ (hbs hbZ) (hput _ (by have := hbs hbY; omega) hiY) (hAx pre x a' _ _ hax)) ?_
  have fin : ∀ (jump : Option Code) (Z : World), KeepsFrom w.heap.size (Y.putObj (w.heap.size + 1) (.loop { bookOf fn a.tmps ps assign body w.heap.size .ready none with state := .busy })) Z ->
    (Instr.endRound (w.heap.size + 1) jump).run P Z = .ok (.bool jump.isNone) (Z.putObj (w.heap.size + 1) (.loop (bookOf fn a.tmps ps assign body w.heap.size (if jump.isNone then .ready else .done) jump))) /\
    Booked (bookOf fn a.tmps ps assign body w.heap.size) w.heap.size .busy none Z := fun jump Z hkZ =>
   ⟨run_endRound (P := P) jump (hbZ.keeps hkZ).loop, hbZ.keeps hkZ⟩
  rintro e a3 Z hp
  cases e with
  | normal =>
   obtain ⟨hk3, hkp3, hi3⟩ := hp
   obtain ⟨hr, hb3⟩ := fin none Z hk3
   have hzs := hbs hb3
   exact ⟨_, _, hr, .inl ⟨rfl, ⟨hput _ (by omega) hi3, hb3.turn⟩, hKt hkp (hKt (hKt (hKb _ _ _) hkp3) (hKb _ _ _))⟩⟩
  | ret =>
   obtain ⟨hk3, hkp3, hi3⟩ := hp
   obtain ⟨hr, hb3⟩ := fin (some .ret) Z hk3
   have hzs := hbs hb3
   exact ⟨_, _, hr, .inr ⟨rfl, ⟨.ret, hputx _ (by omega) hi3, hb3.turn⟩, hKt hkp (hKt (hKt (hKb _ _ _) hkp3) (hKb _ _ _))⟩⟩
  | exit id =>
   obtain ⟨hk3, hkp3, hi3⟩ := hp
   obtain ⟨hr, hb3⟩ := fin (some (.exit id)) Z hk3
   have hzs := hbs hb3
   exact ⟨_, _, hr, .inr ⟨rfl, ⟨.exit id, hputx _ (by omega) hi3, hb3.turn⟩, hKt hkp (hKt (hKt (hKb _ _ _) hkp3) (hKb _ _ _))⟩⟩
  | goto t =>
   obtain ⟨hk3, hkp3, hi3⟩ := hp
   obtain ⟨hr, hb3⟩ := fin (some (.goto t)) Z hk3
   have hzs := hbs hb3
   exact ⟨_, _, hr, .inr ⟨rfl, ⟨.goto t, hputx _ (by omega) hi3, hb3.turn⟩, hKt hkp (hKt (hKt (hKb _ _ _) hkp3) (hKb _ _ _))⟩⟩
  | panic ch => exact hp.elim
  | outgrown => exact hp.elim
 ·rintro e W2 ⟨⟨v, rfl⟩, (⟨xs, hS, hi, hbk⟩ | ⟨pre, hSp, c, hi, hbk⟩)⟩
  ·have hzs := hbs hbk
   exact ⟨none, _, run_endLoop (P := P) hbk.loop (by simp [bookOf]), hdone _ xs _ (Nat.le_refl _) hS (hput _ (by omega) hi) ((World.putObj_heap_other (by omega)).trans hbk.defs)⟩
  ·have hzs := hbs hbk
   exact ⟨some c, _, run_endLoop (P := P) hbk.loop (by simp [bookOf]), hstop _ c pre _ (Nat.le_refl _) hSp (hputx _ (by omega) hi) ((World.putObj_heap_other (by omega)).trans hbk.defs)⟩
end
end Go.Proofs.YtloiaaolnfimgaaGreat
