/- Walks, msgs: number, hash, route, of. -/
import Derived.Test.YtcajhdmppfiaeaaGreatGk2
set_option linter.unusedVariables false
set_option linter.unusedSimpArgs false
namespace Go.Proofs.YtcajhdmppfiaeaaGreat
open Go.RowKit Ms
set_option maxRecDepth 100000 in
theorem mnumber_f (F : FuncId) (m : Int) (w : World) : Calls Tryz.prog 61 #[.int .i64 m, .func (.func F) #[] #[]] w fun e w' => ∃ bm bt, e = .returned (.agg (partN bm bt)) ∧ Row w' bm 2 #[.int .i64 m] ∧ Row w' bt 128 #[.func (.func F) #[] #[]] ∧ Later w w' := by
  have hmf : ∀ (fn : Fn) (first cap : Array Value) (w : World), (Instr.makeFunc fn first cap).run Tryz.prog w = .ok (.func fn first cap) w := fun _ _ _ _ => rfl
  have k1 := ((Row.new w 2 #[.int .i64 m]).alloc (.cells #[.func (.func F) #[] #[]] 128)).alloc (.cells (partN w.heap.size (w.heap.size + 1)) 78)
  have k2 := (Row.new (w.alloc (.cells #[.int .i64 m] 2)) 128 #[.func (.func F) #[] #[]]).alloc (.cells (partN w.heap.size (w.heap.size + 1)) 78)
  have k3 := Row.new ((w.alloc (.cells #[.int .i64 m] 2)).alloc (.cells #[.func (.func F) #[] #[]] 128)) 78 (partN w.heap.size (w.heap.size + 1))
  simp only [World.size_alloc] at k2 k3
  have hL : Later w (((w.alloc (.cells #[.int .i64 m] 2)).alloc (.cells #[.func (.func F) #[] #[]] 128)).alloc (.cells (partN w.heap.size (w.heap.size + 1)) 78)) := (((Later.refl w).alloc _).alloc _).alloc _
  have K1 := Lib.hid k1
  have K2 := Lib.hid k2
  have K3 := Lib.hid k3
  clear k1 k2 k3
  go_enter Tryz.func61, Tryz.ntmps61
  go_wp2
  exact bodyPost_ret (results_cell1 rfl _ _ (w.heap.size + 1 + 1) 78 (partN w.heap.size (w.heap.size + 1)) _ rfl K3.out Tryz.underlying78 rfl infoPart) rfl ⟨_, _, rfl, K1.out, K2.out, hL⟩
set_option maxRecDepth 100000 in
theorem mhash_f (F : FuncId) (w : World) : Calls Tryz.prog 67 #[.func (.func F) #[] #[]] w fun e w' => ∃ bt, e = .returned (.agg (partH bt)) ∧ Row w' bt 131 #[.func (.func F) #[] #[]] ∧ Later w w' := by
  have hmf : ∀ (fn : Fn) (first cap : Array Value) (w : World), (Instr.makeFunc fn first cap).run Tryz.prog w = .ok (.func fn first cap) w := fun _ _ _ _ => rfl
  have k2 := (Row.new w 131 #[.func (.func F) #[] #[]]).alloc (.cells (partH w.heap.size) 78)
  have k3 := Row.new (w.alloc (.cells #[.func (.func F) #[] #[]] 131)) 78 (partH w.heap.size)
  simp only [World.size_alloc] at k3
  have hL : Later w ((w.alloc (.cells #[.func (.func F) #[] #[]] 131)).alloc (.cells (partH w.heap.size) 78)) := ((Later.refl w).alloc _).alloc _
  have K2 := Lib.hid k2
  have K3 := Lib.hid k3
  clear k2 k3
  go_enter Tryz.func67, Tryz.ntmps67
  go_wp2
  exact bodyPost_ret (results_cell1 rfl _ _ (w.heap.size + 1) 78 (partH w.heap.size) _ rfl K3.out Tryz.underlying78 rfl infoPart) rfl ⟨_, rfl, K2.out, hL⟩
set_option maxRecDepth 100000 in
theorem mroute_any (w : World) : Calls Tryz.prog 87 #[] w fun e w' => e = .returned (.agg partR) ∧ Later w w' := by
  have k3 := Row.new w 78 partR
  have hL : Later w (w.alloc (.cells partR 78)) := (Later.refl w).alloc _
  have K3 := Lib.hid k3
  clear k3
  go_enter Tryz.func87, Tryz.ntmps87
  go_wp2
  exact bodyPost_ret (results_cell1 rfl _ _ w.heap.size 78 partR _ rfl K3.out Tryz.underlying78 rfl infoPart) rfl ⟨rfl, hL⟩
theorem mnumber_any (j : Nat) (m : Int) (w : World) (h1 : 1 ≤ j) (h2 : j ≤ 11) : Calls Tryz.prog 61 #[.int .i64 m, .func (.func (nFn j)) #[] #[]] w fun e w' => ∃ v, e = .returned v ∧ Later w w' ∧ (PrM.part (.num j m)).R v w' :=
  (mnumber_f (nFn j) m w).mono fun e w' ⟨bm, bt, e1, k1, k2, hL⟩ => ⟨_, e1, hL, _, rfl, h1, h2, bm, bt, rfl, k1, k2⟩
theorem mhash_any (j : Nat) (w : World) (h : okH j = true) : Calls Tryz.prog 67 #[.func (.func (hFn j)) #[] #[]] w fun e w' => ∃ v, e = .returned v ∧ Later w w' ∧ (PrM.part (.hash j)).R v w' :=
  (mhash_f (hFn j) w).mono fun e w' ⟨bt, e1, k2, hL⟩ => ⟨_, e1, hL, _, rfl, h, bt, rfl, k2⟩
theorem mroute_part (w : World) : Calls Tryz.prog 87 #[] w fun e w' => ∃ v, e = .returned v ∧ Later w w' ∧ (PrM.part .route).R v w' :=
  (mroute_any w).mono fun e w' ⟨e1, hL⟩ => ⟨_, e1, hL, _, rfl, rfl⟩
set_option maxRecDepth 100000 in
theorem mof_any (name : ByteArray) (F : FuncId) (A : Option Addr) (n c : Nat) (w : World) : Calls Tryz.prog 75 #[.string name, .func (.func F) #[] #[], .slice A n c] w fun e w' => e = .returned (.agg #[.string name, .func (.func F) #[] #[], .slice A n c]) ∧ Later w w' := by
  have k3 := Row.new w 71 #[.string name, .func (.func F) #[] #[], .slice A n c]
  have hL : Later w (w.alloc (.cells #[.string name, .func (.func F) #[] #[], .slice A n c] 71)) := (Later.refl w).alloc _
  have K3 := Lib.hid k3
  clear k3
  go_enter Tryz.func75, Tryz.ntmps75
  go_wp2
  exact bodyPost_ret (results_cell1 rfl _ _ w.heap.size 71 #[.string name, .func (.func F) #[] #[], .slice A n c] _ rfl K3.out Tryz.underlying71 rfl infoKind) rfl ⟨rfl, hL⟩
theorem mof_kind (name : ByteArray) (F : FuncId) (fs : List Fld) (A : Option Addr) (w : World) (h : RdP w A fs) : Calls Tryz.prog 75 #[.string name, .func (.func F) #[] #[], .slice A fs.length fs.length] w fun e w' => ∃ v, e = .returned v ∧ Later w w' ∧ (PrM.kind name F fs).R v w' :=
  (mof_any name F A fs.length fs.length w).mono fun e w' ⟨e1, hL⟩ => ⟨_, e1, hL, A, rfl, h.m hL.m⟩
end Go.Proofs.YtcajhdmppfiaeaaGreat
