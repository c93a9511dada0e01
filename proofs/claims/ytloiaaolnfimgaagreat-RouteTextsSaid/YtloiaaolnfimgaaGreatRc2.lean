/- Joined texts: Rb2 Rb3 Rb4. -/
import Derived.Test.YtloiaaolnfimgaaGreatShelf
import Derived.Test.YtloiaaolnfimgaaGreatRc1
import Derived.WalkKit
import Derived.WalkSpells
import Derived.Deep.MidRow
import Derived.Deep.WholeRow
import Derived.Deep.Draws
import Derived.Maps.AppendAt
import Derived.Lib.Hide
import Derived.OwnWalk
import Derived.Laws.IdiomStrings
import Derived.Lib.SlBytesConst
import Derived.Orders
import Derived.Shelf.Abstract
import Derived.OrdersIn
import Derived.RangeFuncCalls
import Derived.RangeFuncNested
import Derived.RangeFuncBound
import Derived.RangeFuncLeaves
import Derived.Shelf.RegionOpen
import Derived.OwnWalkIn
import Derived.TacticsInMore
import Derived.LoopNIn
import Derived.LoopIn
import Derived.WalkMore
import Derived.Test.YtloiaaolnfimgaaGreatRows
import Derived.ProofKit
import Derived.OpenShut
import Derived.Deep.Slices
import Derived.Deep.Matrix
import Derived.WalkLawsBesides
import Derived.BigRegion
import Derived.BigQuiet
import Derived.Lib.AppendZeros
import Derived.Laws.BitsAllLaws
import Derived.IntWalk
import Derived.Laws.CopyOwn
import Derived.Outline
import Derived.Deep.RegionWith
import Derived.Deep.RegionHeld3
import Derived.Laws.EntriesVeiled
import Derived.Deep.DeepCutAuto
import Derived.StillTailTactics
import Derived.Deep.QuietTactic
import Derived.Stop.BytesEq
import Derived.ShutString
import Derived.ChangeOld
import Derived.Lib.ConvBytes
import Derived.Recover
import Derived.Defers
import Derived.Deep.Cut
import Derived.Maps.OwnOps
import Derived.Lib.QuoteBits
import Derived.Lib.AppendStr
import Derived.Deep.Grids
import Derived.Lib.LaidTab
import Derived.ScopeJumps
import Derived.Deep.SlicePairs
import Derived.Lib.SmallJoins
set_option linter.unusedVariables false
set_option linter.unusedSimpArgs false
namespace Go.Proofs.YtloiaaolnfimgaaGreat.Sha
abbrev W := BitVec 32
structure St where
  a : W
  b : W
  c : W
  d : W
  e : W
  f : W
  g : W
  h : W
def St.get (x : St) : Nat → W
  | 0 => x.a
  | 1 => x.b
  | 2 => x.c
  | 3 => x.d
  | 4 => x.e
  | 5 => x.f
  | 6 => x.g
  | _ => x.h
def St.list (x : St) : List W := [x.a, x.b, x.c, x.d, x.e, x.f, x.g, x.h]
def St.add (x y : St) : St := ⟨x.a + y.a, x.b + y.b, x.c + y.c, x.d + y.d, x.e + y.e, x.f + y.f, x.g + y.g, x.h + y.h⟩
def first : St := ⟨0x6a09e667#32, 0xbb67ae85#32, 0x3c6ef372#32, 0xa54ff53a#32, 0x510e527f#32, 0x9b05688c#32, 0x1f83d9ab#32, 0x5be0cd19#32⟩
def ks : List W := [0x428a2f98#32, 0x71374491#32, 0xb5c0fbcf#32, 0xe9b5dba5#32, 0x3956c25b#32, 0x59f111f1#32, 0x923f82a4#32, 0xab1c5ed5#32,
  0xd807aa98#32, 0x12835b01#32, 0x243185be#32, 0x550c7dc3#32, 0x72be5d74#32, 0x80deb1fe#32, 0x9bdc06a7#32, 0xc19bf174#32,
  0xe49b69c1#32, 0xefbe4786#32, 0x0fc19dc6#32, 0x240ca1cc#32, 0x2de92c6f#32, 0x4a7484aa#32, 0x5cb0a9dc#32, 0x76f988da#32,
  0x983e5152#32, 0xa831c66d#32, 0xb00327c8#32, 0xbf597fc7#32, 0xc6e00bf3#32, 0xd5a79147#32, 0x06ca6351#32, 0x14292967#32,
  0x27b70a85#32, 0x2e1b2138#32, 0x4d2c6dfc#32, 0x53380d13#32, 0x650a7354#32, 0x766a0abb#32, 0x81c2c92e#32, 0x92722c85#32,
  0xa2bfe8a1#32, 0xa81a664b#32, 0xc24b8b70#32, 0xc76c51a3#32, 0xd192e819#32, 0xd6990624#32, 0xf40e3585#32, 0x106aa070#32,
  0x19a4c116#32, 0x1e376c08#32, 0x2748774c#32, 0x34b0bcb5#32, 0x391c0cb3#32, 0x4ed8aa4a#32, 0x5b9cca4f#32, 0x682e6ff3#32,
  0x748f82ee#32, 0x78a5636f#32, 0x84c87814#32, 0x8cc70208#32, 0x90befffa#32, 0xa4506ceb#32, 0xbef9a3f7#32, 0xc67178f2#32]
def kc (t : Nat) : W := ks.getD t 0#32
def ror (x : W) (n : Nat) : W := (x >>> n) ||| (x <<< (32 - n))
def S0 (x : W) : W := ror x 2 ^^^ ror x 13 ^^^ ror x 22
def S1 (x : W) : W := ror x 6 ^^^ ror x 11 ^^^ ror x 25
def s0 (x : W) : W := ror x 7 ^^^ ror x 18 ^^^ (x >>> 3)
def s1 (x : W) : W := ror x 17 ^^^ ror x 19 ^^^ (x >>> 10)
def ch (e f g : W) : W := g ^^^ (e &&& (f ^^^ g))
def maj (a b c : W) : W := (a &&& (b ||| c)) ||| (b &&& c)
def rnd (k w : W) (x : St) : St :=
  ⟨x.h + S1 x.e + ch x.e x.f x.g + k + w + (S0 x.a + maj x.a x.b x.c), x.a, x.b, x.c, x.d + (x.h + S1 x.e + ch x.e x.f x.g + k + w), x.e, x.f, x.g⟩
def nxt (l : List W) : W := s1 (l.getD 1 0#32) + l.getD 6 0#32 + s0 (l.getD 14 0#32) + l.getD 15 0#32
def Ms (m : Nat → W) : Nat → List W
  | 0 => []
  | t + 1 => (if t < 16 then m t else nxt (Ms m t)) :: Ms m t
def M (m : Nat → W) (t : Nat) : W := (Ms m (t + 1)).headD 0#32
def rs (x : St) (m : Nat → W) : Nat → St
  | 0 => x
  | t + 1 => rnd (kc t) (M m t) (rs x m t)
def press (x : St) (m : Nat → W) : St := (rs x m 64).add x
def zx (c : UInt8) : W := BitVec.setWidth 32 c.toBitVec
def be (l : List UInt8) : W := l.foldl (fun n x => (n <<< 8) ||| zx x) 0#32
def wd (l : List UInt8) (i : Nat) : W := be ((l.drop (4 * i)).take 4)
def blk (x : St) (l : List UInt8) : St := press x (wd l)
def foldN : Nat → St → List UInt8 → St
  | 0, x, _ => x
  | n + 1, x, l => foldN n (blk x (l.take 64)) (l.drop 64)
def state (l : List UInt8) : St := foldN (l.length / 64) first l
def left (l : List UInt8) : List UInt8 := l.drop (64 * (l.length / 64))
def zeros (n : Nat) : List UInt8 := List.replicate n 0
def told (n many : Nat) : List UInt8 := (List.range many).map fun i => UInt8.ofNat (n / 256 ^ (many - 1 - i))
def noughts (n : Nat) : Nat := (119 - n % 64) % 64
def padded (l : List UInt8) : List UInt8 := l ++ (128 :: zeros (noughts l.length)) ++ told (l.length * 8) 8
def toldSt (x : St) : List UInt8 := (x.list.map fun w => told w.toNat 4).flatten
def sum (l : List UInt8) : List UInt8 := toldSt (state (padded l))
example : sum [97, 98, 99] = [0xba, 0x78, 0x16, 0xbf, 0x8f, 0x01, 0xcf, 0xea, 0x41, 0x41, 0x40, 0xde, 0x5d, 0xae, 0x22, 0x23, 0xb0, 0x03, 0x61, 0xa3, 0x96, 0x17, 0x7a, 0x9c, 0xb4, 0x10, 0xff, 0x61, 0xf2, 0x00, 0x15, 0xad] := by decide +kernel
end Go.Proofs.YtloiaaolnfimgaaGreat.Sha
namespace Go.Proofs.YtloiaaolnfimgaaGreat
open Go.RowKit
structure IsRot (w : World) (v : Value) (s : Nat) (ps : List Nat) (bs bp bl : Nat) : Prop where
  val : v = .func (.func 192) #[] #[.pointer (some ⟨bs, 0, none⟩), .pointer (some ⟨bp, 0, none⟩)]
  sh : Row w bs 3 #[intV s]
  pl : Row w bp 271 #[.slice (some ⟨bl, 0, none⟩) ps.length ps.length]
  li : Row w bl 3 (ps.map intV).toArray
theorem IsRot.keep {w w' : World} {v : Value} {s : Nat} {ps : List Nat} {bs bp bl : Nat} (h : IsRot w v s ps bs bp bl) (h1 : w'.heap[bs]? = w.heap[bs]?) (h2 : w'.heap[bp]? = w.heap[bp]?) (h3 : w'.heap[bl]? = w.heap[bl]?) : IsRot w' v s ps bs bp bl :=
  ⟨h.val, h1.trans h.sh, h2.trans h.pl, h3.trans h.li⟩
theorem IsRot.later {w w' : World} {v : Value} {s : Nat} {ps : List Nat} {bs bp bl : Nat} (h : IsRot w v s ps bs bp bl) (hL : Later w w') : IsRot w' v s ps bs bp bl :=
  ⟨h.val, h.sh.later hL, h.pl.later hL, h.li.later hL⟩
end Go.Proofs.YtloiaaolnfimgaaGreat
namespace Go.Proofs.YtloiaaolnfimgaaGreat
open Go.RowKit
section
variable {P : Program} {ops : Array Oper} {rest : List Oper} {o : Oper} {a : Act} {w : World} {Q : Exit → Act → World → Prop}
end
end Go.Proofs.YtloiaaolnfimgaaGreat
namespace Go.Proofs.YtloiaaolnfimgaaGreat
open Go.RowKit Go.Shelf
attribute [local go_sem] Oper.semAt_some
def IsFn (w : World) (b s : Nat) (ps : List Nat) (S : Nat → Prop) : Prop := ∃ v bs bp bl, Row w b 259 #[v] ∧ IsRot w v s ps bs bp bl ∧ S b ∧ S bs ∧ S bp ∧ S bl
theorem IsFn.keep {w w' : World} {b s : Nat} {ps : List Nat} {S : Nat → Prop} (h : IsFn w b s ps S) (hk : ∀ k, S k → w'.heap[k]? = w.heap[k]?) : IsFn w' b s ps S := by
  obtain ⟨v, bs, bp, bl, h1, h2, h3, h4, h5, h6⟩ := h
  exact ⟨v, bs, bp, bl, (hk b h3).trans h1, h2.keep (hk bs h4) (hk bp h5) (hk bl h6), h3, h4, h5, h6⟩
structure AllFn (w : World) (bm bq bn bf : Nat) (S : Nat → Prop) : Prop where
  sq : S bq
  q : Row w bq 272 #[.pointer (some ⟨bm, 0, none⟩)]
  n : IsFn w bn 3 [7, 18] S
  f : IsFn w bf 10 [17, 19] S
theorem AllFn.keep {w w' : World} {bm bq bn bf : Nat} {S : Nat → Prop} (h : AllFn w bm bq bn bf S) (hk : ∀ k, S k → w'.heap[k]? = w.heap[k]?) : AllFn w' bm bq bn bf S :=
  ⟨h.sq, (hk _ h.sq).trans h.q, h.n.keep hk, h.f.keep hk⟩
end Go.Proofs.YtloiaaolnfimgaaGreat
namespace Go.Proofs.YtloiaaolnfimgaaGreat
open Go.RowKit Go.Shelf
attribute [local go_sem] Oper.semAt_some
theorem IsFn.later {w w' : World} {b s : Nat} {ps : List Nat} {S : Nat → Prop} (h : IsFn w b s ps S) (hL : Later w w') : IsFn w' b s ps S := by
  obtain ⟨v, bs, bp, bl, h1, h2, h3⟩ := h
  exact ⟨v, bs, bp, bl, h1.later hL, h2.later hL, h3⟩
theorem AllFn.later {w w' : World} {bm bq bn bf : Nat} {S : Nat → Prop} (h : AllFn w bm bq bn bf S) (hL : Later w w') : AllFn w' bm bq bn bf S := ⟨h.sq, h.q.later hL, h.n.later hL, h.f.later hL⟩
def Keeps (S : Nat → Prop) (bm : Nat) (X Y : World) : Prop := (∀ k, S k → Y.heap[k]? = X.heap[k]?) ∧ Y.heap[bm]? = X.heap[bm]?
end Go.Proofs.YtloiaaolnfimgaaGreat
namespace Go.Proofs.YtloiaaolnfimgaaGreat
open Go.RowKit Go.Shelf
attribute [local go_sem] Oper.semAt_some
end Go.Proofs.YtloiaaolnfimgaaGreat
namespace Go.Proofs.YtloiaaolnfimgaaGreat
open Go.RowKit Go.Shelf
structure Held (bm bx : Nat) (w0 W : World) : Prop where
  os : W.os = w0.os
  tape : W.tape = w0.tape
  output : W.output = w0.output
  size : w0.heap.size ≤ W.heap.size
  block : ∀ k, k < w0.heap.size → k ≠ bm → k ≠ bx → W.heap[k]? = w0.heap[k]?
theorem Held.refl (bm bx : Nat) (w : World) : Held bm bx w w := ⟨rfl, rfl, rfl, Nat.le_refl _, fun _ _ _ _ => rfl⟩
theorem Held.grown {bm bx : Nat} {w0 X Y : World} {row : Option Nat} (h : Held bm bx w0 X) (hg : X.grownBy Y row) (hr : ∀ r, row = some r → r = bm ∨ r = bx ∨ w0.heap.size ≤ r) : Held bm bx w0 Y :=
  ⟨hg.os.trans h.os, hg.tape.trans h.tape, hg.output.trans h.output, Nat.le_trans h.size hg.size, fun k hk h1 h2 => (hg.block k (Nat.lt_of_lt_of_le hk h.size) (fun e => by
    rcases hr k e.symm with h3 | h3 | h3
    · exact h1 h3
    · exact h2 h3
    · omega)).trans (h.block k hk h1 h2)⟩
theorem Held.later {bm bx : Nat} {w0 X Y : World} (h : Held bm bx w0 X) (hL : Later X Y) : Held bm bx w0 Y := h.grown (grown_of_below hL) (fun r e => by cases e)
theorem Held.set {bm bx : Nat} {w0 X : World} (h : Held bm bx w0 X) (j : Nat) (v : Value) : Held bm bx w0 (X.setCell ⟨bx, j, none⟩ v) := h.grown (grown_set X bx j v) (fun r e => by cases e; exact .inr (.inl rfl))
theorem Keeps.trans {S : Nat → Prop} {bm : Nat} {A B D : World} (h : Keeps S bm A B) (k : Keeps S bm B D) : Keeps S bm A D := ⟨fun i hi => (k.1 i hi).trans (h.1 i hi), k.2.trans h.2⟩
end Go.Proofs.YtloiaaolnfimgaaGreat
namespace Go.Proofs.YtloiaaolnfimgaaGreat
open Go.RowKit Go.Shelf
attribute [local go_sem] Oper.semAt_some
end Go.Proofs.YtloiaaolnfimgaaGreat
namespace Go.Proofs.YtloiaaolnfimgaaGreat
open Go.RowKit
theorem setFrom_mid (pre mid post vs : List Value) (o : Nat) (ho : pre.length = o) (h : vs.length = mid.length) : setFrom (pre ++ (mid ++ post)).toArray o vs = (pre ++ (vs ++ post)).toArray := by
  subst ho
  apply Array.ext_getElem?
  intro i
  rw [setFrom_get _ _ _ _ (by simp; omega), List.getElem?_toArray, List.getElem?_toArray]
  by_cases h1 : i < pre.length
  · rw [if_neg (by omega), List.getElem?_append_left h1, List.getElem?_append_left h1]
  · have hl : ∀ m : List Value, (pre ++ (m ++ post))[i]? = (m ++ post)[i - pre.length]? := fun m => List.getElem?_append_right (by omega)
    rw [hl mid, hl vs]
    by_cases h2 : i < pre.length + vs.length
    · rw [if_pos (by omega), List.getElem?_append_left (by omega)]
    · rw [if_neg (by omega), List.getElem?_append_right (l₁ := vs) (by omega), List.getElem?_append_right (l₁ := mid) (by omega), h]
def runC (x : Sha.St) (p : List UInt8) (n : Nat) : Array Value := (x.list.map wordV ++ (p.map byteV ++ [intV n, .bool true])).toArray
def IsRun (w : World) (g : Nat) (l : List UInt8) : Prop := ∃ p, p.length = 64 ∧ p.take (l.length % 64) = Sha.left l ∧ Row w g 253 (runC (Sha.state l) p l.length)
theorem IsRun.lt {w : World} {g : Nat} {l : List UInt8} (h : IsRun w g l) : g < w.heap.size := by
  obtain ⟨p, _, _, hr⟩ := h
  exact hr.lt
theorem IsRun.later {w w' : World} {g : Nat} {l : List UInt8} (h : IsRun w g l) (hL : Later w w') : IsRun w' g l := by
  obtain ⟨p, h1, h2, hr⟩ := h
  exact ⟨p, h1, h2, hr.later hL⟩
theorem IsRun.grown {w w' : World} {g : Nat} {l : List UInt8} {row : Option Nat} (h : IsRun w g l) (hg : w.grownBy w' row) (hn : some g ≠ row) : IsRun w' g l := by
  obtain ⟨p, h1, h2, hr⟩ := h
  exact ⟨p, h1, h2, hr.grown hg hn⟩
end Go.Proofs.YtloiaaolnfimgaaGreat
namespace Go.Proofs.YtloiaaolnfimgaaGreat
open Go.RowKit
section
variable {P : Program} {Q : Exit → Act → World → Prop}
end
theorem wpList_box {P : Program} {ops : Array Oper} {rest : List Oper} {o : Oper} {a : Act} {w : World} {Q : Exit → Act → World → Prop} (hgd : o.guard = none) (T : TypeId) (x : Operand) (ho : o.op = .box T x) (vx : Value) (hx : a.eval x = vx) {v : Value} {w' : World} (hr : (Instr.box T vx).run P w = .ok v w')
    (h : wpList P ops Q rest (a.put o.dst v) w') : wpList P ops Q (o :: rest) a w :=
  wpList_plain hgd fun _ hK => by
    unfold Oper.wp execOp
    simp only [ho, Sem.run_bind, Sem.run_pure, Result.andThen_ok, hx, hr]
    exact hK _ _ h
end Go.Proofs.YtloiaaolnfimgaaGreat
namespace Go.Proofs.YtloiaaolnfimgaaGreat
open Go.RowKit
theorem info5 : (Tryz.prog.info? 5).map (fun i => (i.zero, i.size, i.bytes)) = some (some (.int .u8 0), 1, 1) := by kernel_rfl
end Go.Proofs.YtloiaaolnfimgaaGreat
namespace Go.Proofs.YtloiaaolnfimgaaGreat
open Go.RowKit
end Go.Proofs.YtloiaaolnfimgaaGreat
namespace Go.Proofs.YtloiaaolnfimgaaGreat
open Go.RowKit
def hC (b : List UInt8) : Array Value := ((b ++ Sha.zeros (32 - b.length)).map byteV).toArray
theorem hC_copy (b d : List UInt8) (h : b.length + d.length ≤ 32) : setFrom (hC b) b.length (d.map byteV) = hC (b ++ d) := by
  have := setFrom_mid (b.map byteV) ((Sha.zeros d.length).map byteV) ((Sha.zeros (32 - b.length - d.length)).map byteV) (d.map byteV) b.length (by simp) (by simp [Sha.zeros])
  unfold hC
  rw [show Sha.zeros (32 - b.length) = Sha.zeros d.length ++ Sha.zeros (32 - b.length - d.length) from by unfold Sha.zeros; rw [List.replicate_append_replicate]; congr 1; omega]
  simp only [List.map_append, List.append_assoc, List.length_append] at this ⊢
  rw [this, show 32 - (b.length + d.length) = 32 - b.length - d.length from by omega]
theorem hC_size (b : List UInt8) (h : b.length ≤ 32) : (hC b).size = 32 := by simp [hC, Sha.zeros]; omega
theorem hC_one (b : List UInt8) : (hC b).all (·.oneCell') = true := by
  rw [Array.all_eq_true_iff_forall_mem]
  intro v hv
  unfold hC at hv
  rw [List.mem_toArray] at hv
  obtain ⟨i, hi, rfl⟩ := List.mem_map.1 hv; rfl
theorem infoH : (Tryz.prog.info? 25).map (·.size) = some 32 := by kernel_rfl
theorem allocH (w : World) : (Instr.alloc 25 true (.tuple #[])).run Tryz.prog w = .ok (.pointer (some ⟨w.heap.size, 0, none⟩)) (w.alloc (.cells (hC []) 25)) := by kernel_rfl
end Go.Proofs.YtloiaaolnfimgaaGreat
namespace Go.Proofs.YtloiaaolnfimgaaGreat
open Go.RowKit
theorem sizeB : (Tryz.prog.info? 120).map (·.size) = some 2 := by kernel_rfl
theorem liesB : liesAt Tryz.prog Tryz.prog.depth 120 (2 / Tryz.prog.cellsOf 120) 0 120 1 = true := by kernel_rfl
set_option maxHeartbeats 1000000 in
set_option maxRecDepth 100000 in
theorem copyCheck_used (b : Nat) (w : World) (h0 : w.cell? ⟨b, 0, none⟩ = some (.pointer (some ⟨b, 0, none⟩))) :
    Calls Tryz.prog 110 #[.pointer (some ⟨b, 0, none⟩)] w fun e w' => e = .returned (.tuple #[]) ∧ w' = w := by
  obtain ⟨j, hj, _⟩ := Option.map_eq_some_iff.1 sizeB
  go_enter Tryz.func110, Tryz.ntmps110
  go_wp2
  rw [Lib.run_neq_ptr_same w _ Tryz.underlying118 hj]
  go_wp2
  go_end0
  exact ⟨rfl, rfl⟩
set_option maxHeartbeats 1000000 in
set_option maxRecDepth 100000 in
theorem copyCheck_fresh (b : Nat) (w : World) (h0 : w.cell? ⟨b, 0, none⟩ = some (.pointer none)) (hsh : w.shape? b = some (120, 2)) (hfz : w.frozen? ⟨b, 0, none⟩ = false) :
    Calls Tryz.prog 110 #[.pointer (some ⟨b, 0, none⟩)] w fun e w' => e = .returned (.tuple #[]) ∧ w' = w.setCell ⟨b, 0, none⟩ (.pointer (some ⟨b, 0, none⟩)) := by
  obtain ⟨j, hj, hjs⟩ := Option.map_eq_some_iff.1 sizeB
  go_enter Tryz.func110, Tryz.ntmps110
  go_wp2
  rw [Lib.run_to_unsafe w ⟨b, 0, none⟩ Tryz.underlying118 Tryz.underlying209 hj (by rw [hjs]; decide) hsh (Nat.zero_lt_succ 1)]
  simp only [Result.andThen]
  rw [Oper.upon_value]
  go_wp2
  rw [run_callFunc_extern Tryz.func141 (by kernel_rfl) (by kernel_rfl) (by kernel_rfl) (e := Extern.AbiNoEscape.same) (by kernel_rfl)]
  rw [Lib.run_noEscape]
  simp only [Result.andThen]
  rw [Oper.upon_value]
  go_wp2
  rw [Lib.run_from_unsafe w ⟨b, 0, none⟩ Tryz.underlying209 Tryz.underlying118 hj hsh liesB]
  simp only [Result.andThen]
  rw [Oper.upon_value]
  go_wp2
  go_end0
  exact ⟨rfl, rfl⟩
theorem copyCheck_any (B b : Nat) (bs : List Value) (w : World) (h : Lib.IsBuilder 120 5 B b bs w) :
    Calls Tryz.prog 110 #[.pointer (some ⟨b, 0, none⟩)] w fun e w' => e = .returned (.tuple #[]) ∧ (Lib.BuilderAt 120 5 B b (.pointer (some ⟨b, 0, none⟩)) bs w' ∧ Below B w w') := by
  rcases h with h | h
  · refine (copyCheck_fresh b w h.cell0 h.shape h.frozen0).mono ?_
    rintro e w' ⟨rfl, rfl⟩
    exact ⟨rfl, h.used _, (Below.refl B w).setCell (p := ⟨b, 0, none⟩) h.1 _⟩
  · refine (copyCheck_used b w h.cell0).mono ?_
    rintro e w' ⟨rfl, rfl⟩
    exact ⟨rfl, h, Below.refl B _⟩
set_option maxHeartbeats 2000000 in
set_option maxRecDepth 100000 in
theorem writeByte_any (B b : Nat) (bs : List Value) (c : Int) (w : World) (h : Lib.IsBuilder 120 5 B b bs w) (hlen : bs.length + 1 ≤ 140737488355328) (hBw : B ≤ w.heap.size) :
    Calls Tryz.prog 111 #[.pointer (some ⟨b, 0, none⟩), .int .u8 c] w fun e w' => e = .returned .nilIface ∧ (Lib.BuilderAt 120 5 B b (.pointer (some ⟨b, 0, none⟩)) (bs ++ [.int .u8 c]) w' ∧ Below B w w') := by
  obtain ⟨i0, hi, hz0, hz1, hz2⟩ := info_parts info5
  go_enter Tryz.func111, Tryz.ntmps111
  go_wp2_with (go_at_call 110; refine (copyCheck_any B b bs _ h).mono ?_)
  rintro e w1 ⟨rfl, h1, hb1⟩
  obtain ⟨hB, v, hbk, hown, hne⟩ := h1
  have c0 : w1.cell? ⟨b, 0, none⟩ = some (.pointer (some ⟨b, 0, none⟩)) := by rw [Lib.cell_of_heap hbk]; rfl
  have c1 : w1.cell? ⟨b, 1, none⟩ = some v := by rw [Lib.cell_of_heap hbk]; rfl
  go_wp2_with (at_builtin; refine wpList_append_own _ rfl _ _ 60 rfl B 5 i0 (.int .u8 0) 1 1 Tryz.underlying60 hi hz0 hz1 hz2 rfl (by decide) _ _ _ rfl (hown.alloc _) ⟨w1.heap.size, 0, none⟩ 1 1 [.int .u8 c] rfl rfl ?c1 ?c2 ?c3 ?c4 ?c5 ?_)
  case c1 =>
    intro j u hj
    match j, hj with
    | 0, hj => simp at hj; subst hj; simp [Addr.add]
  case c2 => intro u hu; simp at hu; subst hu; rfl
  case c3 => unfold maxLen; omega
  case c4 => omega
  case c5 => have := hb1.size; simp; omega
  intro v' w2 hown' hgrow _
  have hlt : b < w1.heap.size := by
    rcases Nat.lt_or_ge b w1.heap.size with h' | h'
    · exact h'
    · simp [Array.getElem?_eq_none h'] at hbk
  have hb2 : w2.heap[b]? = some (.cells #[.pointer (some ⟨b, 0, none⟩), v] 120 (0, 0)) := by
    rw [hgrow.block b (by simp; omega) (fun e => hne e.symm), Lib.alloc_old w1 _ b hlt]
    exact hbk
  have d0 : w2.cell? ⟨b, 0, none⟩ = some (.pointer (some ⟨b, 0, none⟩)) := by rw [Lib.cell_of_heap hb2]; rfl
  have d1 : w2.cell? ⟨b, 1, none⟩ = some v := by rw [Lib.cell_of_heap hb2]; rfl
  have f1 : w2.frozen? ⟨b, 1, none⟩ = false := Lib.frozen_of_heap hb2 1
  obtain ⟨g, cap, rfl⟩ : ∃ g cap, v' = .slice (some ⟨g, 0, none⟩) (bs.length + 1) cap := by
    rcases hown'.2 with ⟨_, h0⟩ | ⟨g, cap, cur, hv, _⟩
    · omega
    · exact ⟨g, cap, hv⟩
  go_wp2
  go_ret
  refine ⟨rfl, ?_, ?_⟩
  · exact Lib.BuilderAt.put (T := 120) (e := 5) hB hb2 (bs' := bs ++ [.int .u8 c]) (by simpa using hown') (by decide)
  · exact ((hb1.alloc (by have := hb1.size; omega) _).grown hgrow (by have := hb1.size; simp; omega) (fun k hk => (hown.lt k hk).1)).setCell (p := ⟨b, 1, none⟩) hB _
theorem boxH (h : List UInt8) (hl : h.length = 32) (w : World) : (Instr.box 25 (.agg (hC h))).run Tryz.prog w = .ok (.pointer (some ⟨w.heap.size, 0, none⟩)) (w.alloc (.cells (hC h) 25)) := by
  have hs := hC_size h (by omega)
  go_simp
end Go.Proofs.YtloiaaolnfimgaaGreat
namespace Go.Proofs.YtloiaaolnfimgaaGreat
open Go.RowKit
def signB (n : Nat) : UInt8 := [48, 49, 50, 51, 52, 53, 54, 55, 56, 57, 97, 98, 99, 100, 101, 102].getD n 0
def hex2 (c : UInt8) : List UInt8 := [signB (c.toNat / 16), signB (c.toNat % 16)]
def textOf (h : List UInt8) : List UInt8 := h.flatMap hex2
theorem textOf_len (h : List UInt8) : (textOf h).length = 2 * h.length := by
  induction h with
  | nil => rfl
  | cons c h ih => rw [textOf, List.flatMap_cons, List.length_append, ← textOf, ih]; simp [hex2]; omega
theorem textOf_snoc (h : List UInt8) (c : UInt8) : textOf (h ++ [c]) = textOf h ++ hex2 c := by simp [textOf]
def signs : ByteArray := { data := #[48, 49, 50, 51, 52, 53, 54, 55, 56, 57, 97, 98, 99, 100, 101, 102] }
theorem idxSign (n : Nat) (hn : n < 16) (w : World) : (Instr.index 9 (.string signs) (.int .u8 (n : Int))).run Tryz.prog w = .ok (.int .u8 ((signB n).toNat : Int)) w := by
  have h16 : n = 0 ∨ n = 1 ∨ n = 2 ∨ n = 3 ∨ n = 4 ∨ n = 5 ∨ n = 6 ∨ n = 7 ∨ n = 8 ∨ n = 9 ∨ n = 10 ∨ n = 11 ∨ n = 12 ∨ n = 13 ∨ n = 14 ∨ n = 15 := by omega
  rcases h16 with rfl | rfl | rfl | rfl | rfl | rfl | rfl | rfl | rfl | rfl | rfl | rfl | rfl | rfl | rfl | rfl
  all_goals (show _ = _; kernel_rfl)
theorem idxHash {cs : Array Value} {k : Nat} {v : Value} {W : World} (hk : k < 32) (h : cs[k]? = some v) : (Instr.index 25 (.agg cs) (.int .i64 (k : Int))).run Tryz.prog W = .ok v W := by
  have h1 : (k : Int) < 32 := by omega
  have h2 : (0 : Int) ≤ (k : Int) := by omega
  obtain ⟨i, hi0, hz, hs, hb⟩ := info_parts info5
  simp [Instr.index, run_underlying Tryz.underlying25, asIntOf, h1, h2, sizeOf, typeInfo, hi0, hs]
  rw [if_pos hk]
  have h' : cs[k]?.getD undef = v := by rw [h]; rfl
  simp [part, go_sem, sizeOf, typeInfo, hi0, hs, h, h']
theorem hC_get (h : List UInt8) (k : Nat) (hk : k < h.length) (hl : h.length ≤ 32) : (hC h)[k]? = some (.int .u8 ((h[k]).toNat : Int)) := by
  unfold hC
  rw [List.getElem?_toArray, List.getElem?_map, List.getElem?_append_left hk, List.getElem?_eq_getElem hk]
  rfl
theorem loadH {w : World} {g : Nat} {h : List UInt8} (hl : h.length = 32) (hr : Row w g 25 (hC h)) : (Instr.loadAt 25 (.pointer (some ⟨g, 0, none⟩))).run Tryz.prog w = .ok (.agg (hC h)) w := by
  have := run_loadAt_mid (P := Tryz.prog) w g 0 25 (hC h).toList _ (hr.range 0 _ fun j v hv => by rw [Nat.zero_add, ← Array.getElem?_toList]; exact hv) Tryz.underlying25 rfl (by rw [Array.length_toList, hC_size h (by omega)]; exact infoH)
  rwa [Array.toArray_toList] at this
theorem byteCells_snoc2 (l : List UInt8) (a b : UInt8) : Lib.byteCells l ++ [.int .u8 (a.toNat : Int)] ++ [.int .u8 (b.toNat : Int)] = Lib.byteCells (l ++ [a, b]) := by simp [Lib.byteCells]
set_option maxHeartbeats 2000000 in
set_option maxRecDepth 100000 in
theorem text_any (h : List UInt8) (hl : h.length = 32) (w : World) :
    Calls Tryz.prog 60 #[.agg (hC h)] w fun e w' => e = .returned (.string ⟨(textOf h).toArray⟩) ∧ Below w.heap.size w w' := by
  have HL := Lib.hid hl
  go_enter Tryz.func60, Tryz.ntmps60
  go_upto_region 2 with (first
    | (refine wpList_box rfl 25 (.tmp 0) rfl (.agg (hC h)) rfl (boxH h hl _) ?_))
  obtain ⟨B, hB⟩ : ∃ y, y = w.heap.size := ⟨_, rfl⟩
  rw [← hB]
  have hb0 : Lib.IsBuilder 120 5 B (B + 1) [] ((w.alloc (.cells (hC h) 25)).alloc (.cells #[.pointer none, .slice none 0 0] 120)) := by
    have := Lib.fresh_isBuilder 120 5 (w.alloc (.cells (hC h) 25))
    rw [World.size_alloc, ← hB] at this
    rcases this with h | h
    · exact .inl ⟨by omega, h.2.imp fun v hv => ⟨hv.1, Own.mono (l := []) hv.2.1 (by omega), hv.2.2⟩⟩
    · exact .inr ⟨by omega, h.2.imp fun v hv => ⟨hv.1, Own.mono (l := []) hv.2.1 (by omega), hv.2.2⟩⟩
  have hrow : Row ((w.alloc (.cells (hC h) 25)).alloc (.cells #[.pointer none, .slice none 0 0] 120)) B 25 (hC h) := by rw [hB]; exact (Row.new w _ _).alloc _
  have hbl : Below B w ((w.alloc (.cells (hC h) 25)).alloc (.cells #[.pointer none, .slice none 0 0] 120)) := by rw [hB]; exact below_new2 _ _ _
  have hld := loadH hl hrow
  have HBB := Lib.hid hB
  have hsz : B ≤ ((w.alloc (.cells (hC h) 25)).alloc (.cells #[.pointer none, .slice none 0 0] 120)).heap.size := Nat.le_of_lt hrow.lt
  clear hB hrow hl
  generalize (w.alloc (.cells (hC h) 25)).alloc (.cells #[.pointer none, .slice none 0 0] 120) = w0 at *
  go_wp2_with (first | (refine wpList_load rfl 25 (.tmp 1) rfl (.pointer (some ⟨B, 0, none⟩)) rfl hld ?_))
  go_loopw [5, 7] (fun _ t wr => ∃ k : Nat, k ≤ 32 ∧ t = .int .i64 k ∧ Lib.IsBuilder 120 5 B (B + 1) (Lib.byteCells (textOf (h.take k))) wr ∧ Below B w wr ∧ B ≤ wr.heap.size) (fun _ t _ => 32 - (intOf t).toNat)
  case atStart => exact ⟨0, by omega, rfl, hb0, hbl, hsz⟩
  case round =>
    obtain ⟨k, hk, rfl, hbk, hbw, hsw⟩ := hrel
    clear hb0 hbl hsz hld
    by_cases hlt : k < 32
    · have hkl : k < h.length := by rw [HL.out]; exact hlt
      obtain ⟨c, hc⟩ : ∃ c, h[k] = c := ⟨_, rfl⟩
      have hix := fun w' : World => idxHash (W := w') hlt (hC_get h k hkl (by rw [HL.out]; omega))
      rw [hc] at hix
      have hcl := c.toNat_lt
      have hs1 := fun w' : World => idxSign (c.toNat / 16) (by omega) w'
      have hs2 := fun w' : World => idxSign (c.toNat % 16) (by omega) w'
      rw [show ((c.toNat / 16 : Nat) : Int) = (c.toNat : Int) / 16 from by omega] at hs1
      rw [show ((c.toNat % 16 : Nat) : Int) = (c.toNat : Int) % 16 from by omega] at hs2
      unfold signs at hs1 hs2
      have hnx : textOf (h.take (k + 1)) = textOf (h.take k) ++ [signB (c.toNat / 16), signB (c.toNat % 16)] := by rw [List.take_succ_eq_append_getElem hkl, textOf_snoc, hc]; rfl
      have HNX := Lib.hid hnx
      have hln : (textOf (h.take k)).length ≤ 64 := by rw [textOf_len, List.length_take]; omega
      have hlc : (Lib.byteCells (textOf (h.take k))).length ≤ 64 := by rw [Lib.byteCells_length]; exact hln
      clear hnx hc hln
      generalize textOf (h.take k) = acc at *
      go_wp2_with fail
      refine (writeByte_any B (B + 1) _ _ _ hbk (by omega) hsw).mono ?_
      rintro e w1 ⟨rfl, hb1, hbw1⟩
      have hs1w := hbw1.size
      have hlc1 : (Lib.byteCells acc ++ [Value.int .u8 ((signB (c.toNat / 16)).toNat : Int)]).length ≤ 65 := by rw [List.length_append]; simp; omega
      clear hs1
      go_wp2_with fail
      refine (writeByte_any B (B + 1) _ _ _ (.inr hb1) (by omega) (by omega)).mono ?_
      rintro e w2 ⟨rfl, hb2, hbw2⟩
      have hs2w := hbw2.size
      rw [byteCells_snoc2, ← HNX.out] at hb2
      have hbB : Below B w w2 := (hbw.trans hbw1).trans hbw2
      clear hb1 hlc1 hs2
      go_wp2_with fail
      go_roundw
      case rel => exact ⟨k + 1, by omega, by go_num, .inr hb2, hbB, by omega⟩
      case measure => simp [intOf]; omega
    · obtain rfl : k = 32 := by omega
      rw [List.take_of_length_le (by rw [HL.out]; omega)] at hbk
      go_wp2_with (first | (go_at_call 61; refine (Tryz.Builder_String_any B (B + 1) (textOf h) _ hbk hsw).mono ?_; rintro e w9 ⟨rfl, hb9⟩))
      go_ret
      exact ⟨rfl, by rw [← HBB.out]; exact hbw.trans hb9⟩
end Go.Proofs.YtloiaaolnfimgaaGreat
namespace Go.Proofs.YtloiaaolnfimgaaGreat
open Go.RowKit
theorem results_cell_tmp {P : Program} {fn : Func} {p q : Tmp} {ty : TypeId} (h : fn.results = #[.cell p ty, .tmp q]) (tmps : Array Value) (w : World) (g : Nat) (t : TypeId) (cs : Array Value) (fr : Nat × Nat) (d : TypeDesc) (v : Value)
    (hp : tmps.getD p undef = .pointer (some ⟨g, 0, none⟩)) (hq : tmps.getD q undef = v) (hg : w.heap[g]? = some (.cells cs t fr))
    (hu : P.underlying ty = some d) (hd : (match d with | .struct _ | .array _ _ => true | _ => false) = true) (hi : (P.info? ty).map (·.size) = some cs.size) :
    (results fn tmps).run P w = .ok (.tuple #[.agg cs, v]) w := by
  have hp' : tmps[p]?.getD undef = .pointer (some ⟨g, 0, none⟩) := by simpa using hp
  have hq' : tmps[q]?.getD undef = v := by simpa using hq
  simp [results, h, hp', hq', asAddr, run_loadVar_row w g t ty cs fr d hg hu hd hi]
def signsL : List UInt8 := [48, 49, 50, 51, 52, 53, 54, 55, 56, 57, 97, 98, 99, 100, 101, 102]
def dig (c : UInt8) : Int := Lib.indexByte signsL c
theorem dig_bd (c : UInt8) : -1 ≤ dig c ∧ dig c ≤ 15 := by
  have h : ∀ n : Fin 256, (-1 ≤ dig (UInt8.ofNat n.val) ∧ dig (UInt8.ofNat n.val) ≤ 15) := by decide +kernel
  have := h ⟨c.toNat, c.toNat_lt⟩
  simpa using this
theorem idxByte_any (c : UInt8) (w : World) : Calls Tryz.prog 144 #[.string signs, .int .u8 (c.toNat : Int)] w fun e w' => e = .returned (.int .i64 (dig c)) ∧ w = w' := by
  refine (Tryz.strings_IndexByte signs (c.toNat : Int) w).mono ?_
  rintro e w' ⟨rfl, rfl⟩
  refine ⟨?_, rfl⟩
  have : ((c.toNat : Int)).toNat.toUInt8 = c := by simp
  rw [this]
  rfl
def newb (x : UInt8) (d : Nat) : UInt8 := UInt8.ofNat (x.toNat * 16 + d)
def hp (l : List UInt8) : Nat → List UInt8
  | 0 => Sha.zeros 32
  | i + 1 => (hp l i).set (i / 2) (newb ((hp l i).getD (i / 2) 0) (dig (l.getD i 0)).toNat)
theorem hp_len (l : List UInt8) (i : Nat) : (hp l i).length = 32 := by
  induction i with
  | zero => simp [hp, Sha.zeros]
  | succ i ih => rw [hp, List.length_set, ih]
def digsTo (l : List UInt8) (n : Nat) : Prop := ∀ i, i < n → 0 ≤ dig (l.getD i 0)
def isHash (l : List UInt8) : Prop := l.length = 64 ∧ digsTo l 64
theorem or_new (x : UInt8) (d : Nat) (hd : d < 16) : bits .or .u8 ((x.toNat : Int) * 16 % 256) (d : Int) = ((newb x d).toNat : Int) := by
  have hx := x.toNat_lt
  rw [show (x.toNat : Int) * 16 % 256 = ((x.toNat * 16 % 256 : Nat) : Int) from by omega, u8_or_nat _ _ (by omega) (by omega), nat_join 4 _ _ (by omega) (by omega)]
  unfold newb
  rw [UInt8.toNat_ofNat']
  omega
theorem hC_set (h : List UInt8) (i : Nat) (x : UInt8) (hl : h.length = 32) : (hC h).setIfInBounds i (byteV x) = hC (h.set i x) := by
  unfold hC
  rw [List.length_set, hl]
  simp only [Sha.zeros, Nat.sub_self, List.replicate_zero, List.append_nil]
  simp [List.map_set]
theorem storeH {w : World} {g : Nat} {a b : List UInt8} (ha : a.length ≤ 32) (hb : b.length ≤ 32) (hr : Row w g 25 (hC a)) : ∃ w', (Instr.storeAt 25 (.pointer (some ⟨g, 0, none⟩)) (.agg (hC b))).run Tryz.prog w = .ok () w' ∧ Row w' g 25 (hC b) ∧ w.grownBy w' (some g) := by
  have h1 := hC_size a ha
  have h2 := hC_size b hb
  refine ⟨_, run_store_row hr (hC b) (by rw [h2]; exact infoH) (by rw [h1, h2]; omega) (hC_one _), ?_, grown_setCells _ _ _⟩
  have hr2 := row_setCells (hC b).toList 0 w _ hr
  rw [setFrom_whole _ _ (by rw [Array.length_toList, h1, h2]), Array.toArray_toList] at hr2
  exact hr2
end Go.Proofs.YtloiaaolnfimgaaGreat
namespace Go.Proofs.YtloiaaolnfimgaaGreat
open Go.RowKit
instance (l : List UInt8) (n : Nat) : Decidable (digsTo l n) := by unfold digsTo; exact inferInstance
instance (l : List UInt8) : Decidable (isHash l) := by unfold isHash; exact inferInstance
def parseB (l : List UInt8) : List UInt8 := if isHash l then hp l 64 else []
def parseE (l : List UInt8) : Int := if isHash l then 0 else 110
theorem parse_ok {l : List UInt8} (h : isHash l) : parseB l = hp l 64 ∧ parseE l = 0 := ⟨if_pos h, if_pos h⟩
theorem parse_no {l : List UInt8} (h : ¬ isHash l) : parseB l = [] ∧ parseE l = 110 := ⟨if_neg h, if_neg h⟩
theorem loop_len (bs : ByteArray) : ∀ (n i : Nat) (r : List UInt8), bs.size - i = n → (ByteArray.toList.loop bs i r).length = n + r.length := by
  intro n
  induction n with
  | zero =>
    intro i r h
    rw [ByteArray.toList.loop, if_neg (by omega)]
    simp
  | succ n ih =>
    intro i r h
    rw [ByteArray.toList.loop, if_pos (by omega), ih (i + 1) _ (by omega), List.length_cons]
    omega
theorem toList_nonempty (bs : ByteArray) (h : 0 < bs.size) : bs.toList.isEmpty = false := by
  have := loop_len bs bs.size 0 [] (by omega)
  cases h2 : bs.toList with
  | nil =>
    unfold ByteArray.toList at h2
    rw [h2] at this
    simp at this
    omega
  | cons _ _ => rfl
set_option maxHeartbeats 4000000 in
set_option maxRecDepth 100000 in
theorem parse_any (s : ByteArray) (w : World) (hs : s.size ≤ 1000000) :
    Calls Tryz.prog 116 #[.string s] w fun e w' => e = .returned (.tuple #[.agg (hC (parseB s.data.toList)), .int .i64 (parseE s.data.toList)]) ∧ Below w.heap.size w w' := by
  by_cases h0 : s.size = 0
  · have hl : s.data.toList = [] := List.eq_nil_of_length_eq_zero (by simpa using h0)
    have hno : ¬ isHash s.data.toList := fun h => by
      have := h.1
      rw [hl] at this
      simp at this
    obtain ⟨hB, hE⟩ := parse_no hno
    have HB := Lib.hid hB
    have HE := Lib.hid hE
    have hrow := Row.new w 25 (hC [])
    have hld : (Instr.loadAt 25 (.pointer (some ⟨w.heap.size, 0, none⟩))).run Tryz.prog (w.alloc (.cells (hC []) 25)) = .ok (.agg (hC [])) (w.alloc (.cells (hC []) 25)) := loadH (h := Sha.zeros 32) (by simp [Sha.zeros]) hrow
    obtain ⟨w9, hst, hr9, hg9⟩ := storeH (a := []) (b := []) (by simp) (by simp) hrow
    have hs0 : s = ⟨#[]⟩ := by
      rcases s with ⟨⟨l⟩⟩
      have : l = [] := hl
      rw [this]
    have hb1 : Below w.heap.size w w9 := (below_new w _).grown hg9 (by simp only [World.size_alloc]; omega) (fun j e => by cases e; exact Nat.le_refl _)
    subst hs0
    clear hno hB hE hl h0
    go_enter Tryz.func116, Tryz.ntmps116
    go_wp2_with (first
      | (with_reducible refine wpList_alloc rfl 25 rfl (allocH _) ?_))
    refine wp_loop_rounds 1 ?_
    rw [rounds_succ]
    go_wp2_with (first
      | (refine wpList_load rfl 25 (.tmp 2) rfl (.pointer (some ⟨w.heap.size, 0, none⟩)) rfl hld ?_)
      | (refine wpList_store rfl 25 (.tmp 2) (.tmp 37) rfl (.pointer (some ⟨w.heap.size, 0, none⟩)) (.agg (hC [])) rfl rfl hst ?_))
    refine bodyPost_ret (results_cell_tmp rfl _ _ w.heap.size 25 (hC []) (0, 0) _ (.int .i64 110) rfl rfl hr9 Tryz.underlying25 rfl (by rw [hC_size [] (by simp)]; exact infoH)) rfl ⟨by rw [HB.out, HE.out], hb1⟩
  by_cases h64 : s.size = 64
  · have hn64 : ((s.size : Int) != 64) = false := by rw [bne_eq_false_iff_eq]; omega
    have hn64' : (s.size != 64) = false := by rw [bne_eq_false_iff_eq]; omega
    have hl : s.data.toList.length = 64 := by rw [← h64]; simp
    have hrow0 : Row (w.alloc (.cells (hC []) 25)) w.heap.size 25 (hC (hp s.data.toList 0)) := Row.new w _ _
    have hne : s.data.toList ≠ [] := by intro e; rw [e] at hl; simp at hl
    have H64 := Lib.hid h64
    have HNE := Lib.hid hne
    have HL := Lib.hid hl
    clear h64 h0 hl hne
    go_enter Tryz.func116, Tryz.ntmps116
    go_wp2_with (first
      | (with_reducible refine wpList_alloc rfl 25 rfl (allocH _) ?_))
    go_loopw [4, 5, 8] (fun _ _ t wr => ∃ k : Nat, k ≤ 64 ∧ t = .int .i64 k ∧ digsTo s.data.toList k ∧ Row wr w.heap.size 25 (hC (hp s.data.toList k)) ∧ Below w.heap.size w wr) (fun _ _ t _ => 64 - (intOf t).toNat)
    case atStart => exact ⟨0, by omega, rfl, fun i hi => absurd hi (by omega), hrow0, below_new w _⟩
    case round =>
      obtain ⟨k, hk, rfl, hdg, hr, hb⟩ := hrel
      clear hrow0
      by_cases hlt : k < 64
      · have hks : k < s.size := by rw [H64.out]; exact hlt
        obtain ⟨c, hc⟩ : ∃ c, s[k] = c := ⟨_, rfl⟩
        have hcl : s.data.toList.getD k 0 = c := by
          rw [← hc, List.getD_eq_getElem?_getD, List.getElem?_eq_getElem (by rw [HL.out]; exact hlt)]
          rfl
        have hcb := c.toNat_lt
        obtain ⟨hd1, hd2⟩ := dig_bd c
        obtain ⟨d, hd⟩ : ∃ d, dig c = d := ⟨_, rfl⟩
        rw [hd] at hd1 hd2
        have hdl : dig (s.data.toList.getD k 0) = d := by rw [hcl, hd]
        have HD := Lib.hid hd
        have HDL := Lib.hid hdl
        have HDG := Lib.hid hdg
        clear hcl hdg hd hdl
        by_cases hneg : d < 0
        · have hdn : decide (d < 0) = true := by simpa using hneg
          have hno : ¬ isHash s.data.toList := fun h => by
            have := h.2 k hlt
            rw [HDL.out] at this
            omega
          obtain ⟨hB, hE⟩ := parse_no hno
          obtain ⟨w9, hst, hr9, hg9⟩ := storeH (a := hp s.data.toList k) (b := []) (by rw [hp_len]; omega) (by simp) hr
          have HB := Lib.hid hB
          have HE := Lib.hid hE
          clear hno hB hE
          go_wp2_with (first
            | (go_at_call 144; refine (idxByte_any c _).mono ?_; rintro e w' ⟨rfl, rfl⟩; rw [HD.out])
            | (refine wpList_store rfl 25 (.tmp 2) (.tmp 22) rfl (.pointer (some ⟨w.heap.size, 0, none⟩)) (.agg (hC [])) rfl rfl hst ?_))
          refine bodyPost_ret (results_cell_tmp rfl _ _ w.heap.size 25 (hC []) (0, 0) _ (.int .i64 110) rfl rfl hr9 Tryz.underlying25 rfl (by rw [hC_size [] (by simp)]; exact infoH)) rfl ⟨by rw [HB.out, HE.out], hb.grown hg9 hb.size (fun j e => by cases e; exact Nat.le_refl _)⟩
        · obtain ⟨dn, rfl⟩ : ∃ dn : Nat, d = (dn : Int) := ⟨d.toNat, by omega⟩
          have hdn : decide ((dn : Int) < 0) = false := by simp
          have hq : k / 2 < (hp s.data.toList k).length := by rw [hp_len]; omega
          have hcx := (hr.cell (k / 2)).trans (hC_get _ _ hq (by rw [hp_len]; omega))
          have hfx := hr.frozen (k / 2)
          have hnx : hp s.data.toList (k + 1) = (hp s.data.toList k).set (k / 2) (newb ((hp s.data.toList k)[k / 2]) dn) := by
            rw [hp, HDL.out, List.getD_eq_getElem?_getD, List.getElem?_eq_getElem hq]
            rfl
          have hset := hC_set (hp s.data.toList k) (k / 2) (newb ((hp s.data.toList k)[k / 2]) dn) (hp_len _ _)
          rw [← hnx] at hset
          have HSET := Lib.hid hset
          have hdg' : digsTo s.data.toList (k + 1) := fun i hi => by
            by_cases e : i = k
            · subst e; rw [HDL.out]; omega
            · exact HDG.out i (by omega)
          have HDG' := Lib.hid hdg'
          clear hnx hset hdg'
          generalize (hp s.data.toList k)[k / 2] = x at *
          have hor := or_new x dn (by omega)
          have hxl := x.toNat_lt
          have hdm : (dn : Int) % 256 = (dn : Int) := by omega
          generalize newb x dn = y at *
          go_wp2_with (first
            | (go_at_call 144; refine (idxByte_any c _).mono ?_; rintro e w' ⟨rfl, rfl⟩; rw [HD.out]))
          go_roundw
          case rel => exact ⟨k + 1, by omega, by go_num, HDG'.out, by rw [← HSET.out]; exact hr.set _ _, hb.setCell (p := ⟨w.heap.size, k / 2, none⟩) (Nat.le_refl _) _⟩
          case measure => simp [intOf]; omega
      · obtain rfl : k = 64 := by omega
        have hyes : isHash s.data.toList := ⟨HL.out, hdg⟩
        obtain ⟨hB, hE⟩ := parse_ok hyes
        have hHl := hp_len s.data.toList 64
        generalize hp s.data.toList 64 = H at *
        have hld := loadH hHl hr
        obtain ⟨w9, hst, hr9, hg9⟩ := storeH (a := H) (b := H) (by omega) (by omega) hr
        have hnl : decide (64 < s.size) = false := by have := H64.out; simp; omega
        have hnl2 : decide ((64 : Int) < (s.size : Int)) = false := by have := H64.out; simp; omega
        have hemp : s.data.toList.isEmpty = false := by cases h : s.data.toList with
          | nil => exact absurd h HNE.out
          | cons _ _ => rfl
        have hemp3 := toList_nonempty s (by have := H64.out; omega)
        have hemp4 : s.toList ≠ [] := fun e => by rw [e] at hemp3; cases hemp3
        have hemp2 : ¬ s.data.toList = [] := HNE.out
        clear hemp4
        have HB := Lib.hid hB
        have HE := Lib.hid hE
        have hsz := hC_size H (by omega)
        have HSZ := Lib.hid hsz
        clear hyes hB hE hdg hsz hHl
        go_wp2_with (first
          | (refine wpList_load rfl 25 (.tmp 2) rfl (.pointer (some ⟨w.heap.size, 0, none⟩)) rfl hld ?_)
          | (refine wpList_store rfl 25 (.tmp 2) (.tmp 38) rfl (.pointer (some ⟨w.heap.size, 0, none⟩)) (.agg (hC H)) rfl rfl hst ?_))
        refine bodyPost_ret (results_cell_tmp rfl _ _ w.heap.size 25 (hC H) (0, 0) _ (.int .i64 0) rfl rfl hr9 Tryz.underlying25 rfl (by rw [HSZ.out]; exact infoH)) rfl ⟨by rw [HB.out, HE.out], hb.grown hg9 hb.size (fun j e => by cases e; exact Nat.le_refl _)⟩
  · have hno : ¬ isHash s.data.toList := fun h => by
      have := h.1
      simp at this
      exact h64 this
    obtain ⟨hB, hE⟩ := parse_no hno
    have HB := Lib.hid hB
    have HE := Lib.hid hE
    have hrow := Row.new w 25 (hC [])
    obtain ⟨w9, hst, hr9, hg9⟩ := storeH (a := []) (b := []) (by simp) (by simp) hrow
    have hb1 : Below w.heap.size w w9 := (below_new w _).grown hg9 (by simp only [World.size_alloc]; omega) (fun j e => by cases e; exact Nat.le_refl _)
    have hks : 0 < s.size := by omega
    have hn64 : ((s.size : Int) != 64) = true := by rw [bne_iff_ne]; omega
    have hn64' : (s.size != 64) = true := by rw [bne_iff_ne]; omega
    obtain ⟨c, hc⟩ : ∃ c, s[0] = c := ⟨_, rfl⟩
    have hcb := c.toNat_lt
    obtain ⟨d, hd⟩ : ∃ d, dig c = d := ⟨_, rfl⟩
    have HD := Lib.hid hd
    clear hno hB hE h64 h0 hd
    by_cases hneg : d < 0
    all_goals
      go_enter Tryz.func116, Tryz.ntmps116
      go_wp2_with (first
        | (with_reducible refine wpList_alloc rfl 25 rfl (allocH _) ?_))
      refine wp_loop_rounds 1 ?_
      rw [rounds_succ]
      go_wp2_with (first
        | (go_at_call 144; refine (idxByte_any c _).mono ?_; rintro e w' ⟨rfl, rfl⟩; rw [HD.out])
        | (refine wpList_store rfl 25 (.tmp 2) (.tmp 22) rfl (.pointer (some ⟨w.heap.size, 0, none⟩)) (.agg (hC [])) rfl rfl hst ?_))
      refine bodyPost_ret (results_cell_tmp rfl _ _ w.heap.size 25 (hC []) (0, 0) _ (.int .i64 110) rfl rfl hr9 Tryz.underlying25 rfl (by rw [hC_size [] (by simp)]; exact infoH)) rfl ⟨by rw [HB.out, HE.out], hb1⟩
end Go.Proofs.YtloiaaolnfimgaaGreat
namespace Go.Proofs.YtloiaaolnfimgaaGreat
open Go.RowKit
end Go.Proofs.YtloiaaolnfimgaaGreat
namespace Go.Proofs.YtloiaaolnfimgaaGreat
open Go.RowKit
end Go.Proofs.YtloiaaolnfimgaaGreat
namespace Go.Proofs.YtloiaaolnfimgaaGreat
open Go.RowKit
def RdsC (w : World) (A : Option Addr) (ls : List (List UInt8)) : Prop :=
  ls ≠ [] → ∃ b o, A = some ⟨b, o, none⟩ ∧ ∀ i (h : i < ls.length), ∃ Ai ci, w.cell? ⟨b, o + i, none⟩ = some (.slice Ai ls[i].length ci) ∧ ls[i].length ≤ ci ∧ ci ≤ 9223372036854775807 ∧ Rd w Ai ls[i]
theorem RdsC.nil (w : World) (A : Option Addr) : RdsC w A [] := fun h => absurd rfl h
theorem RdsC.below {w w' : World} {A : Option Addr} {ls : List (List UInt8)} (h : RdsC w A ls) (hb : Below w.heap.size w w') : RdsC w' A ls := fun hl => by
  obtain ⟨b, o, e, hc⟩ := h hl
  refine ⟨b, o, e, fun i hi => ?_⟩
  obtain ⟨Ai, ci, h1, h2, h3, h4⟩ := hc i hi
  exact ⟨Ai, ci, (hb.cell (p := ⟨b, o + i, none⟩) (block_lt_of_cell h1)).trans h1, h2, h3, h4.below hb⟩
theorem RdsC.at_ {w : World} {A : Option Addr} {ls : List (List UInt8)} (h : RdsC w A ls) {k : Nat} (hk : k < ls.length) : ∃ b o Ai ci, A = some ⟨b, o, none⟩ ∧ w.cell? ⟨b, o + k, none⟩ = some (.slice Ai ls[k].length ci) ∧ ls[k].length ≤ ci ∧ ci ≤ 9223372036854775807 ∧ Rd w Ai ls[k] := by
  obtain ⟨b, o, e, hc⟩ := h (by intro e; subst e; simp at hk)
  obtain ⟨Ai, ci, h1⟩ := hc k hk
  exact ⟨b, o, Ai, ci, e, h1⟩
theorem RdsC.one {w : World} {A : Option Addr} {n c g : Nat} {l : List UInt8} (t : TypeId) (hg : w.heap.size = g) (h : Rd w A l) (hn : l.length = n) (hc : n ≤ c) (hm : c ≤ 9223372036854775807) : RdsC (w.alloc (.cells #[.slice A n c] t)) (some ⟨g, 0, none⟩) [l] := fun _ =>
  ⟨_, _, rfl, fun i hi => by
    have e : i = 0 := by simpa using hi
    subst e
    subst hn
    subst hg
    exact ⟨A, c, ((Row.new w t _).cell 0).trans rfl, hc, hm, h.alloc _⟩⟩
theorem boxHat (h : List UInt8) (hl : h.length = 32) (w : World) : (Instr.box 25 (.agg (hC h))).run Tryz.prog w = .ok (.pointer (some ⟨w.heap.size, 0, none⟩)) (w.alloc (.cells (hC h) 25)) := boxH h hl w
theorem rd_hash {w : World} {g : Nat} {h : List UInt8} {t : TypeId} (hl : h.length = 32) (hr : Row w g t (hC h)) : Rd w (some ⟨g, 0, none⟩) h := fun _ =>
  ⟨_, _, rfl, fun i hi => by
    rw [hr.cell, Nat.zero_add]
    exact hC_get h i hi (by omega)⟩
end Go.Proofs.YtloiaaolnfimgaaGreat
namespace Go.Proofs.YtloiaaolnfimgaaGreat
open Go.RowKit
section
variable {P : Program}
theorem run_box_row (w : World) (T : TypeId) (cs : Array Value) (hi : (P.info? T).map (·.size) = some cs.size) : (Instr.box T (.agg cs)).run P w = .ok (.pointer (some ⟨w.heap.size, 0, none⟩)) (w.alloc (.cells cs T)) := by
  obtain ⟨i, hi0, hs⟩ := Option.map_eq_some_iff.1 hi
  simp [Instr.box, sizeOf, typeInfo, hi0, hs, go_sem]
theorem run_load_row {w : World} {g : Nat} {t T : TypeId} {cs : Array Value} {d : TypeDesc} (hr : Row w g t cs) (hu : P.underlying T = some d) (hd : d.isRow = true) (hi : (P.info? T).map (·.size) = some cs.size) : (Instr.loadAt T (.pointer (some ⟨g, 0, none⟩))).run P w = .ok (.agg cs) w := by
  have := run_loadAt_mid (P := P) w g 0 T cs.toList d (hr.range 0 _ fun j v hv => by rw [Nat.zero_add, ← Array.getElem?_toList]; exact hv) hu hd (by rw [Array.length_toList]; exact hi)
  rwa [Array.toArray_toList] at this
theorem run_load_part {w : World} {g o : Nat} {t T : TypeId} {cs vs : Array Value} {d : TypeDesc} (hr : Row w g t cs) (hv : ∀ j, j < vs.size → cs[o + j]? = vs[j]?) (hu : P.underlying T = some d) (hd : d.isRow = true) (hi : (P.info? T).map (·.size) = some vs.size) : (Instr.loadAt T (.pointer (some ⟨g, o, none⟩))).run P w = .ok (.agg vs) w := by
  have := run_loadAt_mid (P := P) w g o T vs.toList d (hr.range o _ fun j v hj => by
    have hlt : j < vs.size := by
      rcases Nat.lt_or_ge j vs.size with h | h
      · exact h
      · rw [Array.getElem?_toList, Array.getElem?_eq_none h] at hj; cases hj
    rw [hv j hlt, ← Array.getElem?_toList]; exact hj) hu hd (by rw [Array.length_toList]; exact hi)
  rwa [Array.toArray_toList] at this
theorem run_put_row {w : World} {g : Nat} {t T : TypeId} {cs vs : Array Value} (hr : Row w g t cs) (hs : vs.size = cs.size) (hi : (P.info? T).map (·.size) = some vs.size) (h1 : vs.all (·.oneCell') = true) :
    ∃ w', (Instr.storeAt T (.pointer (some ⟨g, 0, none⟩)) (.agg vs)).run P w = .ok () w' ∧ Row w' g t vs ∧ w.grownBy w' (some g) := by
  refine ⟨_, run_store_row hr vs hi (by omega) h1, ?_, grown_setCells _ _ _⟩
  have := row_setCells vs.toList 0 w cs hr
  rwa [setFrom_whole _ _ (by simp [hs])] at this
end
theorem Row.has {w : World} {g : Nat} {t : TypeId} {cs : Array Value} (h : Row w g t cs) (i : Nat) (hi : i < cs.size) : ∃ v, w.cell? ⟨g, i, none⟩ = some v := ⟨_, (h.cell i).trans (Array.getElem?_eq_getElem hi)⟩
theorem below_dN {B : Nat} {w W : World} (h : Below B w W) (n : Nat) : Below B w (W.drewN n) := h.trans ((Drawn.refl W).drewN n |>.below _)
def fillTo (n : Nat) (z : Value) (f : Nat → Value) (k : Nat) : Array Value := ((List.range n).map fun j => if j < k then f j else z).toArray
theorem fillTo_size (n : Nat) (z : Value) (f : Nat → Value) (k : Nat) : (fillTo n z f k).size = n := by simp [fillTo]
theorem fillTo_get (n : Nat) (z : Value) (f : Nat → Value) (k j : Nat) (h : j < n) : (fillTo n z f k)[j]? = some (if j < k then f j else z) := by simp [fillTo, h]
theorem fillTo_get_lt {n : Nat} {z : Value} {f : Nat → Value} {k j : Nat} (hk : k ≤ n) (h : j < k) : (fillTo n z f k)[j]? = some (f j) := by rw [fillTo_get _ _ _ _ _ (by omega), if_pos h]
theorem fillTo_zero (n : Nat) (z : Value) (f : Nat → Value) : fillTo n z f 0 = Array.replicate n z := by
  apply Array.ext_getElem?
  intro i
  by_cases h : i < n
  · rw [fillTo_get n z f 0 i h, if_neg (by omega)]; simp [h]
  · rw [Array.getElem?_eq_none (by rw [fillTo_size]; omega), Array.getElem?_eq_none (by simp; omega)]
theorem fillTo_set (n : Nat) (z : Value) (f : Nat → Value) (k : Nat) (h : k < n) : (fillTo n z f k).setIfInBounds k (f k) = fillTo n z f (k + 1) := by
  apply Array.ext_getElem?
  intro i
  rw [Array.getElem?_setIfInBounds]
  by_cases hi : i < n
  · by_cases e : k = i
    · subst e; rw [if_pos rfl, if_pos (by rw [fillTo_size]; exact h), fillTo_get n z f (k + 1) k hi, if_pos (by omega)]
    · rw [if_neg e, fillTo_get n z f k i hi, fillTo_get n z f (k + 1) i hi]
      by_cases h3 : i < k
      · rw [if_pos h3, if_pos (by omega)]
      · rw [if_neg h3, if_neg (by omega)]
  · rw [if_neg (by omega), Array.getElem?_eq_none (by rw [fillTo_size]; omega), Array.getElem?_eq_none (by rw [fillTo_size]; omega)]
theorem fillTo_all (n : Nat) (z : Value) (f : Nat → Value) : fillTo n z f n = ((List.range n).map f).toArray := by
  unfold fillTo
  apply congrArg List.toArray
  apply List.map_congr_left
  intro j hj
  rw [if_pos (List.mem_range.1 hj)]
theorem fillTo_one {n : Nat} {z : Value} {f : Nat → Value} {k : Nat} (hz : z.oneCell' = true) (hf : ∀ j, (f j).oneCell' = true) : (fillTo n z f k).all (·.oneCell') = true := by
  rw [Array.all_eq_true_iff_forall_mem]
  intro v hv
  unfold fillTo at hv
  rw [List.mem_toArray] at hv
  obtain ⟨i, hi, rfl⟩ := List.mem_map.1 hv
  split
  · exact hf i
  · exact hz
end Go.Proofs.YtloiaaolnfimgaaGreat
namespace Go.Proofs.YtloiaaolnfimgaaGreat
open Go.RowKit
end Go.Proofs.YtloiaaolnfimgaaGreat
namespace Go.Proofs.YtloiaaolnfimgaaGreat
open Go.RowKit
end Go.Proofs.YtloiaaolnfimgaaGreat
namespace Go.Proofs.YtloiaaolnfimgaaGreat
open Go.RowKit Go.Builtin
theorem run_append_zeros_own {P : Program} (w : World) (base g cap : Nat) (t tn ty e : TypeId) (kn : IntKind) (ht : P.underlying t = some (.slice e)) (htn : P.underlying tn = some (.int kn)) (hi : ByteInfo P e) (l : List UInt8) (m : Nat) (hl : l.length = m)
    (hown : Own e w base (.slice (some ⟨g, 0, none⟩) m cap) l) (n : Nat) (hm : m + n ≤ 1000000000) (hbase : base ≤ w.heap.size) :
    ∃ v' w', (Builtin.append_ #[t, tn] ty #[.slice (some ⟨g, 0, none⟩) m cap, .int kn n]).run P w = .ok v' w' ∧ Own e w' base v' (l ++ List.replicate n 0) ∧ w.grownBy w' (some g) ∧ (v'.ownBlock = some g ∨ v'.ownBlock = some w.heap.size) := by
  obtain ⟨i, hi0, hz, hs, hb⟩ := info_parts hi
  subst hl
  have hw : IntKind.i64.wrap (n : Int) = n := by rw [IntKind.wrap_i64]; omega
  have h48i : ¬ (281474976710656 < (n : Int)) := by omega
  have hneg : ¬ ((n : Int) < 0) := by omega
  rcases hown.2 with ⟨hv, _⟩ | ⟨g', cap', cur, hv, hbg, hg, hnc, hcm, hcs, htake⟩
  · cases hv
  · injection hv with h1 h2 h3
    injection h1 with h1
    injection h1 with h1
    subst h1 h3
    have hcr : ((List.replicate n (0 : UInt8)).map byteV).length = n := by simp
    by_cases hroom : l.length + n ≤ cap
    · have hst := run_storeCells_at P g l.length e ((List.replicate n (0 : UInt8)).map byteV) 0 cur w hg (by rw [hcr]; omega) (by intro u hu; obtain ⟨x, _, rfl⟩ := List.mem_map.1 hu; rfl)
      simp only [Nat.add_zero] at hst
      have hrun : (Builtin.append_ #[t, tn] ty #[.slice (some ⟨g, 0, none⟩) l.length cap, .int kn n]).run P w = .ok (.slice (some ⟨g, 0, none⟩) (l.length + n) cap) (w.setRow g (cur.toList.take l.length ++ (List.replicate n (0 : UInt8)).map byteV ++ cur.toList.drop (l.length + ((List.replicate n (0 : UInt8)).map byteV).length)).toArray) := by
        rcases Nat.eq_zero_or_pos n with rfl | h0
        · have hself := setRow_self w g cur e (0, 0) hg
          have hw0 : IntKind.i64.wrap 0 = 0 := by decide
          simp [Builtin.append_, run_underlying ht, run_underlying htn, sizeOf, typeInfo, zeroValue, hi0, hz, hs, hb, asInt, asIntOf, hw0, hroom, Addr.add_lit, storeCells, hself, show l.length ≤ cap from by omega]
        · have hn : n ≠ 0 := by omega
          have hz2 : (zeroCells (Value.int IntKind.u8 0).cells n).toList = (List.replicate n (0 : UInt8)).map byteV := by
            rw [show (Value.int IntKind.u8 0).cells = #[.int .u8 0] from rfl, zeroCells_list]
          rw [List.map_replicate] at hst
          simp [Builtin.append_, run_underlying ht, run_underlying htn, sizeOf, typeInfo, zeroValue, hi0, hz, hs, hb, asInt, asIntOf, hw, hn, hneg, hroom, h48i, Addr.add_lit, hz2, hst]
      refine ⟨_, _, hrun, ⟨by simp, .inr ⟨g, cap, _, by simp, hbg, setRow_heap w g cur _ e _ hg, by simpa using hroom, hcm, ?_, ?_⟩⟩, ⟨rfl, rfl, rfl, by simp, fun k _ hk => setRow_other w g k _ (fun e => hk (by rw [e]))⟩, .inl rfl⟩
      · simp only [List.size_toArray, List.length_append, List.length_take, List.length_drop, Array.length_toList, hcr]
        omega
      · rw [Nat.mul_one] at htake ⊢
        rw [htake, List.map_append, List.length_append, List.length_replicate]
        simp only [List.append_assoc]
        rw [← List.append_assoc]
        exact List.take_left' (by simp)
    · have hn : n ≠ 0 := by omega
      have hnl : ¬ (l.length + n ≤ cap) := hroom
      have h63' : ¬ (9223372036854775807 < (l.length : Int) + (n : Int)) := by omega
      have hfc : (firstCells 1 l.length (.slice (some ⟨g, 0, none⟩) l.length cap)).run P w.drew = .ok (l.map byteV).toArray w.drew :=
        run_firstCells_some (P := P) w.drew 1 l.length ⟨g, 0, none⟩ l.length cap (l.map byteV) (by simp) (World.ownsRow.cells hown (g := g) rfl)
      have h48' : ¬ (281474976710656 < Builtin.nextslicecap (l.length + n) cap) := by
        have := nextslicecap_le (need := l.length + n) (old := cap) (by omega)
        have hc2 : cap < l.length + n := by omega
        omega
      have hge := grownCap_ge w (l.length + n) cap e
      have hle := grownCap_le_maxLen w (l.length + n) cap e (by unfold maxLen; omega)
      have hrun : (Builtin.append_ #[t, tn] ty #[.slice (some ⟨g, 0, none⟩) l.length cap, .int kn n]).run P w = .ok (.slice (some ⟨w.heap.size, 0, none⟩) (l.length + n) (grownCap w (l.length + n) cap e)) (w.drew.alloc (.cells ((l.map byteV).toArray ++ Builtin.zeroCells #[.int .u8 0] n ++ Builtin.zeroCells #[.int .u8 0] (grownCap w (l.length + n) cap e - (l.length + n))) e)) := by
        simp [Builtin.append_, run_underlying ht, run_underlying htn, sizeOf, typeInfo, zeroValue, hi0, hz, hs, hb, asInt, asIntOf, hw, hn, hneg, hnl, h63', h48', h48i, Question.forced, newRow, grownCap, hfc]
        rfl
      refine ⟨_, _, hrun, ⟨by simp, .inr ⟨w.heap.size, grownCap w (l.length + n) cap e, _, by simp, hbase, heap_alloc_new w.drew _, by simpa using hge, hle, ?_, ?_⟩⟩, ⟨rfl, rfl, rfl, by simp, fun k hk _ => Below.heap_alloc w.drew _ k hk⟩, .inr rfl⟩
      · simp [zeroCells_list]
        omega
      · rw [zeroCells_list, zeroCells_list, Nat.mul_one]
        simp only [List.append_toArray, List.map_append, List.length_append, List.length_replicate]
        exact List.take_left' (by simp)
theorem wpList_append_zeros {P : Program} {w : World} {ops : Array Oper} {rest : List Oper} {o : Oper} {a : Act} {Q : Exit → Act → World → Prop} (hgd : o.guard = none) (s x : Operand) (t tn : TypeId)
    (ho : o.op = .call { callee := .builtin .append, args := #[s, x], argTypes := #[t, tn] }) (base g cap : Nat) (e : TypeId) (kn : IntKind) (ht : P.underlying t = some (.slice e)) (htn : P.underlying tn = some (.int kn)) (hi : ByteInfo P e)
    (l : List UInt8) (m : Nat) (hl : l.length = m) (hs : a.eval s = .slice (some ⟨g, 0, none⟩) m cap) (hown : Own e w base (.slice (some ⟨g, 0, none⟩) m cap) l) (n : Nat) (hx : a.eval x = .int kn n) (hm : m + n ≤ 1000000000) (hbase : base ≤ w.heap.size)
    (h : ∀ v' w', Own e w' base v' (l ++ List.replicate n 0) → w.grownBy w' (some g) → (v'.ownBlock = some g ∨ v'.ownBlock = some w.heap.size) → wpList P ops Q rest (a.put o.dst v') w') : wpList P ops Q (o :: rest) a w := by
  obtain ⟨v', w', hr, h1, h2, h3⟩ := run_append_zeros_own (P := P) w base g cap t tn o.type e kn ht htn hi l m hl hown n hm hbase
  exact Lib.wpList_append_run w hgd s x t tn ho _ _ hs hx v' w' hr (h v' w' h1 h2 h3)
end Go.Proofs.YtloiaaolnfimgaaGreat
namespace Go.Proofs.YtloiaaolnfimgaaGreat
open Go.RowKit
end Go.Proofs.YtloiaaolnfimgaaGreat
namespace Go.Proofs.YtloiaaolnfimgaaGreat
open Go.RowKit
end Go.Proofs.YtloiaaolnfimgaaGreat
namespace Go.Proofs.YtloiaaolnfimgaaGreat
open Go.RowKit
theorem run_slice_upto {P : Program} {t U : TypeId} {A : Option Addr} {n ca k : Nat} (ht : P.underlying t = some (.slice U)) (hi : ByteInfo P U) (h2 : k ≤ ca) :
    ∀ w : World, (Instr.sliceAt t (.slice A n ca) none (some (.int .i64 (k : Int))) none).run P w = .ok (.slice A k ca) w := fun w => by
  obtain ⟨i, hi0, hz, hs, hb⟩ := info_parts hi
  have he : P.elem t = U := by simp [Program.elem, ht]
  have ht' : P.underlying t = some (.slice (P.elem t)) := by rw [he]; exact ht
  rw [run_sliceAt_slice w t _ _ _ _ ht', run_slice_h w t A n ca ht' .i64 (k : Int) (by omega) (by omega), he]
  have hz : ∀ x : Addr, x.add 0 = x := fun x => by simp [Addr.add]
  simp [sizeOf, typeInfo, hi0, hs, sliced, hz]
end Go.Proofs.YtloiaaolnfimgaaGreat
namespace Go.Proofs.YtloiaaolnfimgaaGreat
open Go.RowKit
end Go.Proofs.YtloiaaolnfimgaaGreat
namespace Go.Proofs.YtloiaaolnfimgaaGreat
open Go.RowKit
theorem hC_cells (B : List UInt8) (h : B.length = 32) : hC B = (B.map Extern.Stop.cell).toArray := by
  unfold hC
  simp [Sha.zeros, h]
  intro a _
  rfl
theorem eqlHash (a b : List UInt8) (ha : a.length = 32) (hb : b.length = 32) (w : World) : (binOp .eql 25 (.agg (hC a)) (.agg (hC b))).run Tryz.prog w = .ok (.bool (a == b)) w := by
  rw [run_eql_struct, hC_cells a ha, hC_cells b hb, run_equalIn_bytes w 9998 25 5 32 Tryz.underlying25 Tryz.underlying5 (fun w => by kernel_rfl) a b ha hb]
  simp
theorem neqHash (a b : List UInt8) (ha : a.length = 32) (hb : b.length = 32) (w : World) : (binOp .neq 25 (.agg (hC a)) (.agg (hC b))).run Tryz.prog w = .ok (.bool (!(a == b))) w := by
  rw [run_neq_struct, hC_cells a ha, hC_cells b hb, run_equalIn_bytes w 9998 25 5 32 Tryz.underlying25 Tryz.underlying5 (fun w => by kernel_rfl) a b ha hb]
  simp
theorem eqlSame (a : List UInt8) (ha : a.length = 32) (w : World) : (binOp .eql 25 (.agg (hC a)) (.agg (hC a))).run Tryz.prog w = .ok (.bool true) w := by rw [eqlHash a a ha ha, beq_self_eq_true]
theorem Rd.byteZ {w : World} {t : TypeId} {z : Int} (h0 : 0 ≤ z) (h1 : z < 256) : Rd (w.alloc (.cells #[.int .u8 z] t)) (some ⟨w.heap.size, 0, none⟩) [UInt8.ofNat z.toNat] :=
  Rd.byte1 (by rw [UInt8.toNat_ofNat']; omega)
end Go.Proofs.YtloiaaolnfimgaaGreat
namespace Go.Proofs.YtloiaaolnfimgaaGreat
open Go.ChangeShapes Go.WideShapes Go.ChangeAt Go.RowKit
def byteOfV : Value → UInt8
  | .int _ z => UInt8.ofNat z.toNat
  | _ => 0
theorem open_arr8 {H : Type} {enc : TypeId × Value → H} {P : Program} {w : World} {r : Reach} {b0 base : Nat} {spare : Nat → Bool} {held : Bool} {t e : TypeId} {n : Nat} {v : Value} {d : DataW H} {ps : List MemPlace} (ht : P.underlying t = some (.array n e)) (he : P.underlying e = some (.int .u8)) (hce : P.cellsOf e = 1) (hct : P.cellsOf t = n)
    (hval : Value.okWide P w r b0 t v) (hd : DataW.Trod enc P w base spare held t v d ps) : ∃ l : List UInt8, l.length = n ∧ v = .agg (l.map byteV).toArray := by
  obtain ⟨cs, rfl, hsz, _⟩ : ∃ cs, v = .agg cs ∧ cs.size = P.cellsOf t ∧ Row.okWide P w r b0 t cs := by
    simpa [Value.okWide, ht] using hval
  obtain ⟨fuel, hf⟩ := hd
  obtain ⟨xs, m, rfl, _, _, hn, hx⟩ := DataW.trod_array ht hf
  rw [hct] at hsz
  have hcell : ∀ i, i < n → ∃ z : Int, cs[i]? = some (.int .u8 z) ∧ 0 ≤ z ∧ z ≤ 255 := by
    intro i hi
    have h := hx i hi
    rw [hce, Nat.mul_one, List.getElem?_eq_getElem (by omega)] at h
    obtain ⟨z, hz, _, hw⟩ := DataW.trod_int he h
    refine ⟨z, ?_, ?_⟩
    · have hcl : i < cs.toList.length := by simp; omega
      simp only [Value.cells] at hz
      rw [List.drop_eq_getElem_cons hcl] at hz
      simp only [List.take_succ_cons, List.take_zero] at hz
      injection hz with hz
      rw [← hz, ← Array.getElem?_toList, List.getElem?_eq_getElem hcl]
    · simp [Lit.wf, IntKind.min, IntKind.max, IntKind.signed, IntKind.bits] at hw
      omega
  refine ⟨cs.toList.map byteOfV, by simp; exact hsz, ?_⟩
  congr 1
  apply Array.ext_getElem?
  intro i
  by_cases hi : i < n
  · obtain ⟨z, hz, h1, h2⟩ := hcell i hi
    have hz' : cs.toList[i]? = some (.int .u8 z) := by rw [Array.getElem?_toList]; exact hz
    simp only [List.getElem?_toArray, List.getElem?_map, hz', Option.map_some, hz, byteOfV]
    congr 1
    unfold byteV
    congr 1
    rw [UInt8.toNat_ofNat']
    omega
  · rw [Array.getElem?_eq_none (by omega), Array.getElem?_eq_none (by simp; omega)]
theorem hC_full (h : List UInt8) (hl : h.length = 32) : hC h = (h.map byteV).toArray := by
  unfold hC
  simp [Sha.zeros, hl]
end Go.Proofs.YtloiaaolnfimgaaGreat
namespace Go.Proofs.YtloiaaolnfimgaaGreat
open Go.RowKit
theorem conv_rd (w : World) (l : List UInt8) (hl : l.length ≤ 9223372036854775807) : ∃ W cap, (convert 9 60 (.string ⟨l.toArray⟩)).run Tryz.prog w = .ok (.slice (some ⟨w.heap.size, 0, none⟩) l.length cap) W ∧ Rd W (some ⟨w.heap.size, 0, none⟩) l ∧ l.length ≤ cap ∧ cap ≤ 9223372036854775807 ∧ Later w W := by
  refine ⟨_, _, Lib.run_convert_string_bytes (P := Tryz.prog) w 9 60 5 ⟨l.toArray⟩ Tryz.underlying9 Tryz.underlying60 Tryz.underlying5, fun _ => ⟨_, _, rfl, fun i hi => ?_⟩, grownCap_ge _ _ _ _, ?_, ⟨rfl, rfl, rfl, by rw [Lib.bytesWorld_size]; omega, fun b hb => Lib.bytesWorld_at_old _ _ _ b hb⟩⟩
  · rw [cell_of_row _ _ (0 + i) _ _ _ (Lib.bytesWorld_at_new _ _ _), Nat.zero_add]
    simp [Lib.bytesCells, Array.getElem?_append, hi]
  · have := grownCap_le_maxLen w l.length 0 5 (by unfold maxLen; exact hl)
    unfold maxLen at this
    exact this
theorem op_conv {P : Program} {Q : Exit → Act → World → Prop} {o : Oper} {a : Act} {W : World} {R : Value → World → Prop} {s t : TypeId} {x : Operand} {vx : Value} (ho : o.op = .convert s t x) (hx : a.eval x = vx) {v : Value} {W' : World} (hr : (convert s t vx).run P W = .ok v W') (hL : Later W W') (h : R v W') : o.wp P a W (fun a' W' => ∃ v, a' = a.put o.dst v ∧ Later W W' ∧ R v W') Q := op_convert ho hx hr hL h
end Go.Proofs.YtloiaaolnfimgaaGreat
namespace Go.Proofs.YtloiaaolnfimgaaGreat
open Go.RowKit
def RdsW (w0 w : World) (A : Option Addr) (ls : List (List UInt8)) : Prop :=
  ls ≠ [] → ∃ b o, A = some ⟨b, o, none⟩ ∧ ∀ i (h : i < ls.length), ∃ Ai ci, w.cell? ⟨b, o + i, none⟩ = some (.slice Ai ls[i].length ci) ∧ ls[i].length ≤ ci ∧ ci ≤ 9223372036854775807 ∧ Rd w0 Ai ls[i]
theorem RdsW.later {w0 w w' : World} {A : Option Addr} {ls : List (List UInt8)} (h : RdsW w0 w A ls) (hb : Later w w') : RdsW w0 w' A ls := fun hl => by
  obtain ⟨b, o, e, hc⟩ := h hl
  refine ⟨b, o, e, fun i hi => ?_⟩
  obtain ⟨Ai, ci, h1, h2, h3, h4⟩ := hc i hi
  exact ⟨Ai, ci, hb.cell h1, h2, h3, h4⟩
theorem RdsW.at_ {w0 w : World} {A : Option Addr} {ls : List (List UInt8)} (h : RdsW w0 w A ls) {k : Nat} (hk : k < ls.length) : ∃ b o Ai ci, A = some ⟨b, o, none⟩ ∧ w.cell? ⟨b, o + k, none⟩ = some (.slice Ai ls[k].length ci) ∧ ls[k].length ≤ ci ∧ ci ≤ 9223372036854775807 ∧ Rd w0 Ai ls[k] := by
  obtain ⟨b, o, e, hc⟩ := h (by intro e; subst e; simp at hk)
  obtain ⟨Ai, ci, h1⟩ := hc k hk
  exact ⟨b, o, Ai, ci, e, h1⟩
section
variable {P : Program}
theorem RdsW.cells {w0 w : World} {b o : Nat} {ls : List (List UInt8)} (h : RdsW w0 w (some ⟨b, o, none⟩) ls) : ∀ i, i < ls.length → ∃ v, w.cell? ⟨b, o + i, none⟩ = some v := fun i hi => by
  obtain ⟨b', o', A, c, e, hc, _⟩ := h.at_ hi
  injection e with e
  injection e with e1 e2
  subst e1 e2
  exact ⟨_, hc⟩
end
end Go.Proofs.YtloiaaolnfimgaaGreat
namespace Go.Proofs.YtloiaaolnfimgaaGreat
open Go.RowKit
section
variable {P : Program} {Q : Exit → Act → World → Prop}
structure InvG (G : World → World → Prop) (ops : Array Oper) (a0 : Act) (w : World) (V : Nat → Value → World → Prop) (l : Array Bool) (a : Act) (W : World) : Prop where
  size : l.size = ops.size
  closed : ∀ i j, l.getD i false = true → waits ops i j = true → l.getD j false = true
  later : G w W
  act : ∃ xs : Nat → Value, a = laid ops a0 l xs ops.size ∧ ∀ j, j < ops.size → l.getD j false = true → V j (xs j) W
def StepOkE (P : Program) (ops : Array Oper) (Q : Exit → Act → World → Prop) (E : World → World → Prop) (o : Oper) (a : Act) (W : World) (R : Value → World → Prop) : Prop :=
  if Region.wanted o (yielded ops a.tmps) then o.wp P a W (fun a' W' => ∃ v, a' = a.put o.dst v ∧ E W W' ∧ R v W') Q else R undef W
theorem stepOkE_want {ops : Array Oper} {E : World → World → Prop} {o : Oper} {a : Act} {W : World} {R : Value → World → Prop} (hg : o.guard = none) (h : o.wp P a W (fun a' W' => ∃ v, a' = a.put o.dst v ∧ E W W' ∧ R v W') Q) : StepOkE P ops Q E o a W R := by
  unfold StepOkE
  rw [if_pos (by unfold Region.wanted; rw [hg])]
  exact h
theorem stepOkE_later {ops : Array Oper} {E : World → World → Prop} {o : Oper} {a : Act} {W : World} {R : Value → World → Prop} (hE : ∀ W', Later W W' → E W W') (hg : o.guard = none) (h : o.wp P a W (fun a' W' => ∃ v, a' = a.put o.dst v ∧ Later W W' ∧ R v W') Q) : StepOkE P ops Q E o a W R :=
  stepOkE_want hg (Oper.wp_mono (fun a' W' ⟨v, h1, h2, h3⟩ => ⟨v, h1, hE W' h2, h3⟩) h)
theorem wpAnyIn_tail2E {F : Fence} (hF : Wide F) {n : Nat} {ops : Array Oper} (hp : plainAll ops = true) (hd : dstsB ops = true) (hb : backB ops = true) {m : Nat} (ha : anc2B ops m = true) {a0 : Act} (hin : dstIn ops a0.tmps.size = true) {w : World} (hm : ops.size = m + 2) {last y : Oper} (hlast : ops[m]? = some last) (hy : ops[m + 1]? = some y) (hyg : y.guard = none) (hyw : waits ops (m + 1) m = true)
    (E : Nat → World → World → Prop) (G : World → World → Prop) (hEr : ∀ i W, E i W W) (hG : ∀ i W W', G w W → E i W W' → G w W') (V : Nat → Value → World → Prop) (hV : ∀ i j v W W', j ≠ i → V j v W → E i W W' → V j v W')
    (step : ∀ i o a W, i < m → ops[i]? = some o → G w W → Env ops a0 V i a W → StepOkE P ops Q (E i) o a W (V i))
    (fin : ∀ xs W, G w W → (∀ j, j < m → V j (xs j) W) → (∀ x, keepsB ops m x = true → (putL (ops.toList.take m) 0 xs a0).eval x = a0.eval x) → (∀ j t, j < m → dstOf ops j = some t → (putL (ops.toList.take m) 0 xs a0).eval (.tmp t) = xs j) →
      Region.wanted last (yielded ops (putL (ops.toList.take m) 0 xs a0).tmps) = true ∧ last.wp P (putL (ops.toList.take m) 0 xs a0) W (fun a' W' => y.wp P a' W' (fun a W => Q .normal a W) Q) Q) :
    ∀ (fuel : Nat) (l : Array Bool) (a : Act) (W : World), l.toList.count false ≤ fuel → l.getD m false = false → l.getD (m + 1) false = false → InvG G ops a0 w V l a W → wpAnyIn F n P .any ops Q fuel l a W := by
  have hlaid : ∀ (l : Array Bool) (xs : Nat → Value), l.getD m false = false → l.getD (m + 1) false = false → (∀ i, i < m → l.getD i false = true) → laid ops a0 l xs ops.size = putL (ops.toList.take m) 0 xs a0 := fun l xs hf hf1 hl => by
    rw [hm, laid, if_neg (by rw [hf1]; simp), laid, if_neg (by rw [hf]; simp)]
    have key : ∀ (os : List Oper) (k : Nat), k + os.length = m → (∀ j, j < os.length → os[j]? = ops[k + j]?) → putL os k xs (laid ops a0 l xs k) = laid ops a0 l xs m := by
      intro os
      induction os with
      | nil => intro k hk _; rw [show m = k from by simpa using hk.symm]; rfl
      | cons o os ih =>
        intro k hk hos
        rw [putL]
        have h0 : ops[k]? = some o := by have := hos 0 (by simp); simpa using this.symm
        have e : (laid ops a0 l xs k).put o.dst (xs k) = laid ops a0 l xs (k + 1) := by
          rw [laid, if_pos (hl k (by simp at hk; omega))]
          unfold dstOf
          rw [h0]
        rw [e]
        refine ih (k + 1) (by simp at hk; omega) (fun j hj => ?_)
        have := hos (j + 1) (by simp; omega)
        rw [List.getElem?_cons_succ] at this
        rw [this]
        congr 1
        omega
    refine (key (ops.toList.take m) 0 (by simp; omega) (fun j hj => ?_)).symm
    rw [List.getElem?_take_of_lt (by simp at hj; omega)]
    simp
  intro fuel
  induction fuel with
  | zero =>
    intro l a W hc hlf hlf1 hI
    exfalso
    have hmm : m < l.size := by rw [hI.size]; omega
    have hmem : false ∈ l.toList := by
      have : l[m] = false := by simpa [Array.getD, hmm] using hlf
      rw [← this]; exact Array.mem_toList_iff.2 (Array.getElem_mem hmm)
    have := List.count_pos_iff.2 hmem
    omega
  | succ fuel ih =>
    intro l a W hc hlf hlf1 hI
    refine ⟨fun hr => ?_, fun i hi => ?_⟩
    · have := ready_nil hb hI.size hr m (by omega)
      rw [hlf] at this; cases this
    obtain ⟨h1, o, ho, hdeps⟩ := mem_ready.1 hi
    have hlt : i < ops.size := (Array.getElem?_eq_some_iff.1 ho).1
    have hi' : i < l.size := by rw [hI.size]; exact hlt
    have hf : l.getD i false = false := by simp [Array.getD, hi'] at h1 ⊢; exact h1
    obtain ⟨xs, rfl, hx⟩ := hI.act
    have hdst : dstOf ops i = o.dst := by unfold dstOf; rw [ho]
    have hwl : ∀ j, waits ops i j = true → l.getD j false = true := fun j hw => by
      unfold waits at hw
      rw [ho] at hw
      obtain ⟨k, hk, h2⟩ := Array.any_eq_true.1 hw
      simp at h2
      rw [← h2.2]
      exact hdeps _ (Array.getElem_mem hk) h2.1
    have hjlt : ∀ j t, dstOf ops j = some t → j < ops.size := fun j t h => by
      unfold dstOf at h
      cases hj : ops[j]? with
      | none => rw [hj] at h; cases h
      | some o' => exact (Array.getElem?_eq_some_iff.1 hj).1
    have hts : ∀ j t, dstOf ops j = some t → t < a0.tmps.size := fun j t h => by
      unfold dstIn at hin
      rw [List.all_eq_true] at hin
      have := hin j (List.mem_range.2 (hjlt j t h))
      rw [h] at this
      simpa using this
    have hkeep : ∀ x, keepsB ops i x = true → (laid ops a0 l xs ops.size).eval x = a0.eval x := fun x hk => laid_keep x _ (fun j d hj hjd hl hx' => by
        subst hx'
        unfold keepsB at hk
        rw [List.all_eq_true] at hk
        have h3 := hk j (List.mem_range.2 hj)
        rw [hjd] at h3
        simp at h3
        rcases h3 with h3 | h3
        · subst h3; rw [hf] at hl; cases hl
        · have := hI.closed j i hl h3
          rw [hf] at this; cases this)
    have hget : ∀ j t, l.getD j false = true → dstOf ops j = some t → (laid ops a0 l xs ops.size).eval (.tmp t) = xs j := fun j t hl ht => laid_get hd ht hl (hts j t ht) _ (Nat.le_refl _) (hjlt j t ht)
    by_cases him : i = m
    · subst him
      have hall' : ∀ j, j < i → l.getD j false = true := anc2_all ha hI.closed hwl
      obtain rfl : o = last := by rw [ho] at hlast; exact Option.some.inj hlast
      have hf2 := fin xs W hI.later (fun j hj => hx j (by omega) (hall' j hj)) (fun x hk => by rw [← hlaid l xs hf hlf1 hall']; exact hkeep x hk) (fun j t hj ht => by rw [← hlaid l xs hf hlf1 hall']; exact hget j t (hall' j hj) ht)
      rw [← hlaid l xs hf hlf1 hall'] at hf2
      obtain ⟨hw2, hf2⟩ := hf2
      have hpl := plainAll_get hp ho
      have hend : ∀ a' W', y.wp P a' W' (fun a W => Q .normal a W) Q → wpAnyIn F n P .any ops Q fuel (l.setIfInBounds i true) a' W' := fun a' W' hq => by
        have hsz : (l.setIfInBounds i true).size = ops.size := by rw [Array.size_setIfInBounds, hI.size]
        have hself : (l.setIfInBounds i true).getD i false = true := by simp [Array.getD, hi']
        have hset : ∀ j, j ≠ i → (l.setIfInBounds i true).getD j false = l.getD j false := fun j hj => getD_set_ne false (fun e => hj e.symm)
        have h1f : (l.setIfInBounds i true).getD (i + 1) false = false := by rw [hset _ (by omega)]; exact hlf1
        have hcount : 0 < fuel := by
          have hil : i < l.toList.length := by simpa using hi'
          have hlv : l.toList[i] = false := by simpa [Array.getD, hi'] using hf
          have hc2 := List.count_set (a := true) (b := false) (l := l.toList) (i := i) hil
          rw [hlv, if_pos (show (false == false) = true from rfl), if_neg (show ¬ (true == false) = true from by decide)] at hc2
          have h1l : i + 1 < (l.toList.set i true).length := by rw [List.length_set, Array.length_toList, hI.size]; omega
          have hmem : false ∈ l.toList.set i true := by
            have e : (l.toList.set i true)[i + 1] = false := by
              have : i + 1 < l.size := by rw [hI.size]; omega
              rw [List.getElem_set_ne (by omega)]
              simpa [Array.getD, this] using hlf1
            rw [← e]; exact List.getElem_mem h1l
          have := List.count_pos_iff.2 hmem
          omega
        obtain ⟨f2, rfl⟩ : ∃ f2, fuel = f2 + 1 := ⟨fuel - 1, by omega⟩
        refine ⟨fun hr => ?_, fun k hk => ?_⟩
        · have := ready_nil hb hsz hr (i + 1) (by omega)
          rw [h1f] at this; cases this
        · obtain ⟨h1, o', ho', _⟩ := mem_ready.1 hk
          have hklt : k < ops.size := (Array.getElem?_eq_some_iff.1 ho').1
          have hk' : k < (l.setIfInBounds i true).size := by rw [hsz]; exact hklt
          have hkf : (l.setIfInBounds i true).getD k false = false := by
            generalize l.setIfInBounds i true = l' at *
            simp [Array.getD, hk'] at h1 ⊢
            exact h1
          have hki : k = i + 1 := by
            rcases Nat.lt_trichotomy k i with h | h | h
            · rw [hset k (by omega), hall' k h] at hkf; cases hkf
            · subst h; rw [hself] at hkf; cases hkf
            · omega
          subst hki
          obtain rfl : o' = y := by rw [ho'] at hy; exact Option.some.inj hy
          have hfin : ∀ a3 W3, Q .normal a3 W3 → wpAnyIn F n P .any ops Q f2 ((l.setIfInBounds i true).setIfInBounds (i + 1) true) a3 W3 := fun a3 W3 hq3 => by
            refine wpAnyIn_done ?_ hq3 _
            rw [List.eq_nil_iff_forall_not_mem]
            intro q hq4
            obtain ⟨g1, o4, ho4, _⟩ := mem_ready.1 hq4
            have hqlt : q < ops.size := (Array.getElem?_eq_some_iff.1 ho4).1
            have hq' : q < ((l.setIfInBounds i true).setIfInBounds (i + 1) true).size := by rw [Array.size_setIfInBounds, hsz]; exact hqlt
            have g2 : ((l.setIfInBounds i true).setIfInBounds (i + 1) true).getD q false = true := by
              by_cases e : q = i + 1
              · subst e
                simp [Array.getD]
                rw [hI.size]; exact hklt
              · rw [getD_set_ne false (fun e' => e e'.symm)]
                by_cases e2 : q = i
                · subst e2; exact hself
                · rw [hset q e2]; exact hall' q (by omega)
            generalize (l.setIfInBounds i true).setIfInBounds (i + 1) true = l' at *
            simp [Array.getD, hq'] at g1 g2
            rw [g2] at g1
            cases g1
          unfold wpOpIn
          rw [ho']
          simp only
          rw [if_pos (by unfold Region.wanted; rw [hyg])]
          exact Oper.wpIn_mono (fun a3 W3 h3 => hfin a3 W3 h3) (opIn_of_op hF (plainAll_get hp ho') hq)
      unfold wpOpIn
      rw [ho]
      simp only
      rw [if_pos hw2]
      exact Oper.wpIn_mono (fun a' W' h => hend a' W' h) (opIn_of_op hF hpl hf2)
    · by_cases him1 : i = m + 1
      · subst him1
        exfalso
        have := hwl m hyw
        rw [hlf] at this; cases this
      have henv : Env ops a0 V i (laid ops a0 l xs ops.size) W := ⟨hkeep, fun j t hw ht => by
        rw [hget j t (hwl j hw) ht]
        exact hx j (hjlt j t ht) (hwl j hw)⟩
      have hs := step i o _ W (by omega) ho hI.later henv
      have hset : ∀ j, j ≠ i → (l.setIfInBounds i true).getD j false = l.getD j false := fun j hj => getD_set_ne false (fun e => hj e.symm)
      have next : ∀ v W', E i W W' → V i v W' → InvG G ops a0 w V (l.setIfInBounds i true) ((laid ops a0 l xs ops.size).put o.dst v) W' := fun v W' hL hv => by
        refine ⟨by simpa using hI.size, fun p q hp hw => ?_, hG i _ _ hI.later hL, (fun j => if j = i then v else xs j), ?_, fun j hj hl => ?_⟩
        · by_cases e : p = i
          · subst e
            exact getD_set_true (hwl q hw)
          · rw [hset p e] at hp
            exact getD_set_true (hI.closed p q hp hw)
        · rw [← hdst]
          exact laid_put hd v hi' hf _ (Nat.le_refl _) hlt
        · show V j (if j = i then v else xs j) W'
          by_cases e : j = i
          · subst e; rw [if_pos rfl]; exact hv
          · rw [if_neg e]
            rw [hset j e] at hl
            exact hV i j _ W W' e (hx j hj hl) hL
      have hcnt : (l.setIfInBounds i true).toList.count false ≤ fuel := by
        have hil : i < l.toList.length := by simpa using hi'
        have hlv : l.toList[i] = false := by simpa [Array.getD, hi'] using hf
        have := List.count_set (a := true) (b := false) (l := l.toList) (i := i) hil
        rw [Array.toList_setIfInBounds, this, hlv, if_pos (show (false == false) = true from rfl), if_neg (show ¬ (true == false) = true from by decide)]
        have hp : 0 < l.toList.count false := List.count_pos_iff.2 (by rw [← hlv]; exact List.getElem_mem hil)
        omega
      have hlf' : (l.setIfInBounds i true).getD m false = false := by rw [hset m (fun e => him e.symm)]; exact hlf
      have hlf1' : (l.setIfInBounds i true).getD (m + 1) false = false := by rw [hset (m + 1) (fun e => him1 e.symm)]; exact hlf1
      unfold wpOpIn
      rw [ho]
      unfold StepOkE at hs
      simp only
      split
      · rename_i hw
        rw [if_pos hw] at hs
        refine Oper.wpIn_mono (fun a' W' h => ?_) (opIn_of_op hF (plainAll_get hp ho) hs)
        obtain ⟨v, rfl, hL, hv⟩ := h
        exact ih _ _ _ hcnt hlf' hlf1' (next v W' hL hv)
      · rename_i hw
        rw [if_neg hw] at hs
        exact ⟨fun f _ => hF.fn f, ih _ _ _ hcnt hlf' hlf1' (next undef W (hEr i W) hs)⟩
theorem wpIn_region_last2E {F : Fence} (hF : Wide F) {n : Nat} {id : Nat} {o o2 : Oper} {os : List Oper} {a0 : Act} {w : World} (E : Nat → World → World → Prop) (G : World → World → Prop) (hEr : ∀ i W, E i W W) (hG : ∀ i W W', G w W → E i W W' → G w W') (hG0 : G w w.drew) (V : Nat → Value → World → Prop) (hV : ∀ i j v W W', j ≠ i → V j v W → E i W W' → V j v W') (hm : P.follows .mixedOrders = true) (hp : plainAll (o :: o2 :: os).toArray = true) (hd : dstsB (o :: o2 :: os).toArray = true) (hb : backB (o :: o2 :: os).toArray = true) (ha : anc2B (o :: o2 :: os).toArray (init2 o o2 os).length = true) (hin : dstIn (o :: o2 :: os).toArray a0.tmps.size = true)
    (hg : (pen2 o o2 os).guard = none) (hg2 : (last2 o o2 os).guard = none) (hyw : waits (o :: o2 :: os).toArray ((init2 o o2 os).length + 1) (init2 o o2 os).length = true)
    (step : AllFrom (fun i o' => ∀ a W, G w W → Env (o :: o2 :: os).toArray a0 V i a W → StepOkE P (o :: o2 :: os).toArray Q (E i) o' a W (V i)) 0 (init2 o o2 os))
    (fin : ∀ xs W, G w W → (∀ j, j < (init2 o o2 os).length → V j (xs j) W) → (∀ x, keepsB (o :: o2 :: os).toArray (init2 o o2 os).length x = true → (putL (init2 o o2 os) 0 xs a0).eval x = a0.eval x) → (∀ j t, j < (init2 o o2 os).length → dstOf (o :: o2 :: os).toArray j = some t → (putL (init2 o o2 os) 0 xs a0).eval (.tmp t) = xs j) →
      LastOk2 P (pen2 o o2 os) (last2 o o2 os) (putL (init2 o o2 os) 0 xs a0) W Q) : (Code.region id (o :: o2 :: os).toArray true).wpIn F n P Q a0 w := by
  have e := init2_eq os o o2
  rw [← e] at hp hd hb ha hin step fin hyw ⊢
  generalize init2 o o2 os = l at *
  generalize pen2 o o2 os = x at *
  generalize last2 o o2 os = y at *
  have htake : (l ++ [x, y]).toArray.toList.take l.length = l := by simp
  refine wpIn_region_any hm (wpAnyIn_tail2E hF hp hd hb (m := l.length) ha hin (last := x) (y := y) (by simp) (by simp) (by simp) hg2 hyw E G hEr hG V hV (fun i o a W hi ho hL he => ?_) (fun xs W hL hx hk hg' => ?_) _ _ _ _ ?_ ?_ ?_ ⟨by simp, fun i j hi _ => ?_, hG0, fun _ => undef, ?_, fun j hj hl => ?_⟩)
  · have h := allFrom_get l 0 step i o (by
      rw [List.getElem?_toArray, List.getElem?_append_left hi] at ho
      exact ho)
    rw [Nat.zero_add] at h
    exact h a W hL he
  · rw [htake] at hk hg' ⊢
    exact ⟨by unfold Region.wanted; rw [hg], (fin xs W hL hx hk hg').run⟩
  · simp
  · simp [Array.getD]
  · simp [Array.getD]
  · exfalso
    simp [Array.getD] at hi
  · have : ∀ k, laid (l ++ [x, y]).toArray a0 (Array.replicate (l ++ [x, y]).toArray.size false) (fun _ => undef) k = a0 := fun k => by
      induction k with
      | zero => rfl
      | succ k ih => rw [laid, if_neg (by simp [Array.getD]), ih]
    exact (this _).symm
  · exfalso
    simp [Array.getD] at hl
end
end Go.Proofs.YtloiaaolnfimgaaGreat
namespace Go.Proofs.YtloiaaolnfimgaaGreat
open Go.RowKit
def upd (xs : Nat → Value) (i : Nat) (v : Value) : Nat → Value := fun j => if j = i then v else xs j
theorem upd_self (xs : Nat → Value) (i : Nat) (v : Value) : upd xs i v i = v := if_pos rfl
theorem upd_ne (xs : Nat → Value) {i j : Nat} (v : Value) (h : j ≠ i) : upd xs i v j = xs j := if_neg h
section
variable {P : Program} {Q : Exit → Act → World → Prop}
structure InvX (G : World → World → Prop) (ops : Array Oper) (a0 : Act) (w : World) (V : Nat → (Nat → Value) → World → Prop) (l : Array Bool) (a : Act) (W : World) : Prop where
  size : l.size = ops.size
  closed : ∀ i j, l.getD i false = true → waits ops i j = true → l.getD j false = true
  later : G w W
  act : ∃ xs : Nat → Value, a = laid ops a0 l xs ops.size ∧ ∀ j, j < ops.size → l.getD j false = true → V j xs W
structure EnvX (ops : Array Oper) (a0 : Act) (V : Nat → (Nat → Value) → World → Prop) (i : Nat) (a : Act) (W : World) (xs : Nat → Value) : Prop where
  keep : ∀ x, keepsB ops i x = true → a.eval x = a0.eval x
  val : ∀ j t, waits ops i j = true → dstOf ops j = some t → a.eval (.tmp t) = xs j
  get : ∀ j, j < ops.size → waits ops i j = true → V j xs W
theorem wpAnyIn_tailX {F : Fence} (hF : Wide F) {n : Nat} {ops : Array Oper} (hp : plainAll ops = true) (hd : dstsB ops = true) (hb : backB ops = true) (ha : ancB ops = true) {a0 : Act} (hin : dstIn ops a0.tmps.size = true) {w : World} {m : Nat} (hm : ops.size = m + 1) {last : Oper} (hlast : ops[m]? = some last)
    (E : Nat → World → World → Prop) (G : World → World → Prop) (hEr : ∀ i W, E i W W) (hG : ∀ i W W', G w W → E i W W' → G w W') (V : Nat → (Nat → Value) → World → Prop) (hV : ∀ i j xs v W W', j < ops.size → j ≠ i → waits ops j i = false → V j xs W → E i W W' → V j (upd xs i v) W')
    (step : ∀ i o a W xs, i < m → ops[i]? = some o → G w W → EnvX ops a0 V i a W xs → StepOkE P ops Q (E i) o a W (fun v W' => V i (upd xs i v) W'))
    (fin : ∀ xs W, G w W → (∀ j, j < m → V j xs W) → (∀ x, keepsB ops m x = true → (putL (ops.toList.take m) 0 xs a0).eval x = a0.eval x) → (∀ j t, j < m → dstOf ops j = some t → (putL (ops.toList.take m) 0 xs a0).eval (.tmp t) = xs j) →
      if Region.wanted last (yielded ops (putL (ops.toList.take m) 0 xs a0).tmps) then last.wp P (putL (ops.toList.take m) 0 xs a0) W (fun a' W' => Q .normal a' W') Q else Q .normal ((putL (ops.toList.take m) 0 xs a0).put last.dst undef) W) :
    ∀ (fuel : Nat) (l : Array Bool) (a : Act) (W : World), l.toList.count false ≤ fuel → l.getD m false = false → InvX G ops a0 w V l a W → wpAnyIn F n P .any ops Q fuel l a W := by
  have hlaid : ∀ (l : Array Bool) (xs : Nat → Value), l.getD m false = false → (∀ i, i < m → l.getD i false = true) → laid ops a0 l xs ops.size = putL (ops.toList.take m) 0 xs a0 := fun l xs hf hl => by
    rw [hm, laid, if_neg (by rw [hf]; simp)]
    have key : ∀ (os : List Oper) (k : Nat), k + os.length = m → (∀ j, j < os.length → os[j]? = ops[k + j]?) → putL os k xs (laid ops a0 l xs k) = laid ops a0 l xs m := by
      intro os
      induction os with
      | nil => intro k hk _; rw [show m = k from by simpa using hk.symm]; rfl
      | cons o os ih =>
        intro k hk hos
        rw [putL]
        have h0 : ops[k]? = some o := by have := hos 0 (by simp); simpa using this.symm
        have e : (laid ops a0 l xs k).put o.dst (xs k) = laid ops a0 l xs (k + 1) := by
          rw [laid, if_pos (hl k (by simp at hk; omega))]
          unfold dstOf
          rw [h0]
        rw [e]
        refine ih (k + 1) (by simp at hk; omega) (fun j hj => ?_)
        have := hos (j + 1) (by simp; omega)
        rw [List.getElem?_cons_succ] at this
        rw [this]
        congr 1
        omega
    refine (key (ops.toList.take m) 0 (by simp; omega) (fun j hj => ?_)).symm
    rw [List.getElem?_take_of_lt (by simp at hj; omega)]
    simp
  intro fuel
  induction fuel with
  | zero =>
    intro l a W hc hlf hI
    exfalso
    have hmm : m < l.size := by rw [hI.size]; omega
    have hmem : false ∈ l.toList := by
      have : l[m] = false := by simpa [Array.getD, hmm] using hlf
      rw [← this]; exact Array.mem_toList_iff.2 (Array.getElem_mem hmm)
    have := List.count_pos_iff.2 hmem
    omega
  | succ fuel ih =>
    intro l a W hc hlf hI
    refine ⟨fun hr => ?_, fun i hi => ?_⟩
    · have := ready_nil hb hI.size hr m (by omega)
      rw [hlf] at this; cases this
    obtain ⟨h1, o, ho, hdeps⟩ := mem_ready.1 hi
    have hlt : i < ops.size := (Array.getElem?_eq_some_iff.1 ho).1
    have hi' : i < l.size := by rw [hI.size]; exact hlt
    have hf : l.getD i false = false := by simp [Array.getD, hi'] at h1 ⊢; exact h1
    obtain ⟨xs, rfl, hx⟩ := hI.act
    have hdst : dstOf ops i = o.dst := by unfold dstOf; rw [ho]
    have hwl : ∀ j, waits ops i j = true → l.getD j false = true := fun j hw => by
      unfold waits at hw
      rw [ho] at hw
      obtain ⟨k, hk, h2⟩ := Array.any_eq_true.1 hw
      simp at h2
      rw [← h2.2]
      exact hdeps _ (Array.getElem_mem hk) h2.1
    have hjlt : ∀ j t, dstOf ops j = some t → j < ops.size := fun j t h => by
      unfold dstOf at h
      cases hj : ops[j]? with
      | none => rw [hj] at h; cases h
      | some o' => exact (Array.getElem?_eq_some_iff.1 hj).1
    have hts : ∀ j t, dstOf ops j = some t → t < a0.tmps.size := fun j t h => by
      unfold dstIn at hin
      rw [List.all_eq_true] at hin
      have := hin j (List.mem_range.2 (hjlt j t h))
      rw [h] at this
      simpa using this
    have hkeep : ∀ x, keepsB ops i x = true → (laid ops a0 l xs ops.size).eval x = a0.eval x := fun x hk => laid_keep x _ (fun j d hj hjd hl hx' => by
        subst hx'
        unfold keepsB at hk
        rw [List.all_eq_true] at hk
        have h3 := hk j (List.mem_range.2 hj)
        rw [hjd] at h3
        simp at h3
        rcases h3 with h3 | h3
        · subst h3; rw [hf] at hl; cases hl
        · have := hI.closed j i hl h3
          rw [hf] at this; cases this)
    have hget : ∀ j t, l.getD j false = true → dstOf ops j = some t → (laid ops a0 l xs ops.size).eval (.tmp t) = xs j := fun j t hl ht => laid_get hd ht hl (hts j t ht) _ (Nat.le_refl _) (hjlt j t ht)
    by_cases him : i = m
    · subst him
      have hall := anc_all ha hI.closed (by rw [hm]; simpa using hwl)
      rw [hm] at hall
      have hall' : ∀ j, j < i → l.getD j false = true := fun j hj => hall j (by omega)
      obtain rfl : o = last := by rw [ho] at hlast; exact Option.some.inj hlast
      have hf2 := fin xs W hI.later (fun j hj => hx j (by omega) (hall' j hj)) (fun x hk => by rw [← hlaid l xs hf hall']; exact hkeep x hk) (fun j t hj ht => by rw [← hlaid l xs hf hall']; exact hget j t (hall' j hj) ht)
      rw [← hlaid l xs hf hall'] at hf2
      have hend : ∀ a' W', Q .normal a' W' → wpAnyIn F n P .any ops Q fuel (l.setIfInBounds i true) a' W' := fun a' W' hq => by
        refine wpAnyIn_done ?_ hq _
        rw [List.eq_nil_iff_forall_not_mem]
        intro k hk
        obtain ⟨h1, o', ho', _⟩ := mem_ready.1 hk
        have hklt : k < ops.size := (Array.getElem?_eq_some_iff.1 ho').1
        have hk' : k < (l.setIfInBounds i true).size := by rw [Array.size_setIfInBounds, hI.size]; exact hklt
        have h2 : (l.setIfInBounds i true).getD k false = true := by
          by_cases e : k = i
          · subst e; simp [Array.getD, hi']
          · exact getD_set_true (hall' k (by omega))
        generalize l.setIfInBounds i true = l' at *
        simp [Array.getD, hk'] at h1 h2
        rw [h2] at h1
        cases h1
      unfold wpOpIn
      rw [ho]
      simp only
      split
      · rename_i hw
        rw [if_pos hw] at hf2
        exact Oper.wpIn_mono (fun a' W' h => hend a' W' h) (opIn_of_op hF (plainAll_get hp ho) hf2)
      · rename_i hw
        rw [if_neg hw] at hf2
        exact ⟨fun f _ => hF.fn f, hend _ _ hf2⟩
    · have henv : EnvX ops a0 V i (laid ops a0 l xs ops.size) W xs := ⟨hkeep, fun j t hw ht => hget j t (hwl j hw) ht, fun j hj hw => hx j hj (hwl j hw)⟩
      have hs := step i o _ W xs (by omega) ho hI.later henv
      have hset : ∀ j, j ≠ i → (l.setIfInBounds i true).getD j false = l.getD j false := fun j hj => getD_set_ne false (fun e => hj e.symm)
      have next : ∀ v W', E i W W' → V i (upd xs i v) W' → InvX G ops a0 w V (l.setIfInBounds i true) ((laid ops a0 l xs ops.size).put o.dst v) W' := fun v W' hL hv => by
        refine ⟨by simpa using hI.size, fun p q hp hw => ?_, hG i _ _ hI.later hL, upd xs i v, ?_, fun j hj hl => ?_⟩
        · by_cases e : p = i
          · subst e
            exact getD_set_true (hwl q hw)
          · rw [hset p e] at hp
            exact getD_set_true (hI.closed p q hp hw)
        · rw [← hdst]
          exact laid_put hd v hi' hf _ (Nat.le_refl _) hlt
        · by_cases e : j = i
          · subst e; exact hv
          · rw [hset j e] at hl
            have hwf : waits ops j i = false := by
              cases hwj : waits ops j i
              · rfl
              · have := hI.closed j i hl hwj
                rw [hf] at this; cases this
            exact hV i j xs v W W' hj e hwf (hx j hj hl) hL
      have hcnt : (l.setIfInBounds i true).toList.count false ≤ fuel := by
        have hil : i < l.toList.length := by simpa using hi'
        have hlv : l.toList[i] = false := by simpa [Array.getD, hi'] using hf
        have := List.count_set (a := true) (b := false) (l := l.toList) (i := i) hil
        rw [Array.toList_setIfInBounds, this, hlv, if_pos (show (false == false) = true from rfl), if_neg (show ¬ (true == false) = true from by decide)]
        have hp : 0 < l.toList.count false := List.count_pos_iff.2 (by rw [← hlv]; exact List.getElem_mem hil)
        omega
      have hlf' : (l.setIfInBounds i true).getD m false = false := by rw [hset m (fun e => him e.symm)]; exact hlf
      unfold wpOpIn
      rw [ho]
      unfold StepOkE at hs
      simp only
      split
      · rename_i hw
        rw [if_pos hw] at hs
        refine Oper.wpIn_mono (fun a' W' h => ?_) (opIn_of_op hF (plainAll_get hp ho) hs)
        obtain ⟨v, rfl, hL, hv⟩ := h
        exact ih _ _ _ hcnt hlf' (next v W' hL hv)
      · rename_i hw
        rw [if_neg hw] at hs
        exact ⟨fun f _ => hF.fn f, ih _ _ _ hcnt hlf' (next undef W (hEr i W) hs)⟩
theorem wpIn_region_tailX {F : Fence} (hF : Wide F) {n : Nat} {id : Nat} {l : List Oper} {last : Oper} {a0 : Act} {w : World} (E : Nat → World → World → Prop) (G : World → World → Prop) (hEr : ∀ i W, E i W W) (hG : ∀ i W W', G w W → E i W W' → G w W') (hG0 : G w w.drew) (V : Nat → (Nat → Value) → World → Prop) (hV : ∀ i j xs v W W', j < (l ++ [last]).toArray.size → j ≠ i → waits (l ++ [last]).toArray j i = false → V j xs W → E i W W' → V j (upd xs i v) W') (hm : P.follows .mixedOrders = true) (hp : plainAll (l ++ [last]).toArray = true) (hd : dstsB (l ++ [last]).toArray = true) (hb : backB (l ++ [last]).toArray = true) (ha : ancB (l ++ [last]).toArray = true) (hin : dstIn (l ++ [last]).toArray a0.tmps.size = true)
    (step : AllFrom (fun i o => ∀ a W xs, G w W → EnvX (l ++ [last]).toArray a0 V i a W xs → StepOkE P (l ++ [last]).toArray Q (E i) o a W (fun v W' => V i (upd xs i v) W')) 0 l) (hg : last.guard = none)
    (fin : ∀ xs W, G w W → (∀ j, j < l.length → V j xs W) → (∀ x, keepsB (l ++ [last]).toArray l.length x = true → (putL l 0 xs a0).eval x = a0.eval x) → (∀ j t, j < l.length → dstOf (l ++ [last]).toArray j = some t → (putL l 0 xs a0).eval (.tmp t) = xs j) →
      last.wp P (putL l 0 xs a0) W (fun a' W' => Q .normal a' W') Q) : (Code.region id (l ++ [last]).toArray true).wpIn F n P Q a0 w := by
  have htake : (l ++ [last]).toArray.toList.take l.length = l := by simp
  refine wpIn_region_any hm (wpAnyIn_tailX hF hp hd hb ha hin (m := l.length) (last := last) (by simp) (by simp) E G hEr hG V hV (fun i o a W xs hi ho hL he => ?_) (fun xs W hL hx hk hg' => ?_) _ _ _ _ ?_ ?_ ⟨by simp, fun i j hi _ => ?_, hG0, fun _ => undef, ?_, fun j hj hl => ?_⟩)
  · have h := allFrom_get l 0 step i o (by
      rw [List.getElem?_toArray, List.getElem?_append_left hi] at ho
      exact ho)
    rw [Nat.zero_add] at h
    exact h a W xs hL he
  · rw [htake] at hk hg' ⊢
    rw [if_pos (by unfold Region.wanted; rw [hg])]
    exact fin xs W hL hx hk hg'
  · simp
  · simp [Array.getD]
  · exfalso
    simp [Array.getD] at hi
  · have : ∀ k, laid (l ++ [last]).toArray a0 (Array.replicate (l ++ [last]).toArray.size false) (fun _ => undef) k = a0 := fun k => by
      induction k with
      | zero => rfl
      | succ k ih => rw [laid, if_neg (by simp [Array.getD]), ih]
    exact (this _).symm
  · exfalso
    simp [Array.getD] at hl
theorem wpIn_region_lastX {F : Fence} (hF : Wide F) {n : Nat} {id : Nat} {o : Oper} {os : List Oper} {a0 : Act} {w : World} (E : Nat → World → World → Prop) (G : World → World → Prop) (hEr : ∀ i W, E i W W) (hG : ∀ i W W', G w W → E i W W' → G w W') (hG0 : G w w.drew) (V : Nat → (Nat → Value) → World → Prop) (hV : ∀ i j xs v W W', j < (o :: os).toArray.size → j ≠ i → waits (o :: os).toArray j i = false → V j xs W → E i W W' → V j (upd xs i v) W') (hm : P.follows .mixedOrders = true) (hp : plainAll (o :: os).toArray = true) (hd : dstsB (o :: os).toArray = true) (hb : backB (o :: os).toArray = true) (ha : ancB (o :: os).toArray = true) (hin : dstIn (o :: os).toArray a0.tmps.size = true) (hg : (lastL o os).guard = none)
    (step : AllFrom (fun i o' => ∀ a W xs, G w W → EnvX (o :: os).toArray a0 V i a W xs → StepOkE P (o :: os).toArray Q (E i) o' a W (fun v W' => V i (upd xs i v) W')) 0 (initL o os))
    (fin : ∀ xs W, G w W → (∀ j, j < (initL o os).length → V j xs W) → (∀ x, keepsB (o :: os).toArray (initL o os).length x = true → (putL (initL o os) 0 xs a0).eval x = a0.eval x) → (∀ j t, j < (initL o os).length → dstOf (o :: os).toArray j = some t → (putL (initL o os) 0 xs a0).eval (.tmp t) = xs j) →
      LastOk P (lastL o os) (putL (initL o os) 0 xs a0) W Q) : (Code.region id (o :: os).toArray true).wpIn F n P Q a0 w := by
  have e := init_last os o
  rw [← e] at hp hd hb ha hin hV step fin ⊢
  exact wpIn_region_tailX hF E G hEr hG hG0 V hV hm hp hd hb ha hin step hg (fun xs W hL hx hk hg' => (fin xs W hL hx hk hg').run)
end
end Go.Proofs.YtloiaaolnfimgaaGreat
namespace Go.Proofs.YtloiaaolnfimgaaGreat
open Go.RowKit
theorem run_append_one {P : Program} (w : World) (base g n cap : Nat) (t ty U : TypeId) (ht : P.underlying t = some (.slice U)) (hi : ByteInfo P U) (l : List UInt8) (hn : l.length = n) (hown : Own U w base (.slice (some ⟨g, 0, none⟩) n cap) l) (hb : base ≤ w.heap.size)
    (b : Nat) (c : UInt8) (m : Nat) (hc : w.cell? ⟨b, 0, none⟩ = some (byteV c)) (hm : n ≤ 1000000000) :
    (n < cap ∧ (Builtin.append_ #[t, t] ty #[.slice (some ⟨g, 0, none⟩) n cap, .slice (some ⟨b, 0, none⟩) 1 m]).run P w = .ok (.slice (some ⟨g, 0, none⟩) (n + 1) cap) (w.setCell ⟨g, n, none⟩ (byteV c))) ∨
    (∃ v' w', (Builtin.append_ #[t, t] ty #[.slice (some ⟨g, 0, none⟩) n cap, .slice (some ⟨b, 0, none⟩) 1 m]).run P w = .ok v' w' ∧ Later w w' ∧ Own U w' base v' (l ++ [c])) := by
  obtain ⟨i, hi0, hz, hs, hby⟩ := info_parts hi
  subst hn
  have hnews : ∀ j u, [byteV c][j]? = some u → w.cell? ((⟨b, 0, none⟩ : Addr).add j) = some u := fun j u hu => by
    rcases j with _ | j
    · simp at hu; subst hu; exact hc
    · simp at hu
  rcases hown.2 with ⟨hv, _⟩ | ⟨g', cap', cur, hv, hbg, hg, hnc, hcm, hcs, htake⟩
  · cases hv
  · injection hv with h1 h2 h3
    injection h1 with h1
    injection h1 with h1
    subst h1 h3
    rw [Nat.mul_one] at hcs
    by_cases hroom : l.length + 1 ≤ cap
    · left
      refine ⟨by omega, ?_⟩
      have hr := run_append_room (P := P) w t ty U i ht hi0 g l.length cap cur hg ⟨b, 0, none⟩ 1 m [byteV c] (by rw [hs]; rfl) hnews (fun u hu => by simp at hu; subst hu; rfl) hroom (by rw [hs]; simp; omega)
      rw [hr, hs, Nat.mul_one]
      congr 1
      have hset : (cur.toList.take l.length ++ [byteV c] ++ cur.toList.drop (l.length + [byteV c].length)).toArray = cur.setIfInBounds l.length (byteV c) := by
        apply Array.ext'
        rw [Array.toList_setIfInBounds, List.set_eq_take_append_cons_drop, if_pos (by simp; omega)]
        simp
      rw [hset]
      have h5 := hg
      simp only [World.setRow, World.setCell]
      congr 1
      apply Array.ext_getElem?
      intro k
      simp only [Array.getElem?_modify]
      by_cases hk : g = k
      · subst hk
        simp [hg]
      · simp [hk]
    · right
      have holds : ∀ j u, (l.map byteV)[j]? = some u → w.cell? ((⟨g, 0, none⟩ : Addr).add j) = some u := World.ownsRow.cells hown (g := g) rfl
      have hr := run_append_grow (P := P) w t ty U i _ ht hi0 hz ⟨g, 0, none⟩ l.length cap (l.map byteV) (by rw [hs]; simp) holds ⟨b, 0, none⟩ 1 m [byteV c] (by rw [hs]; rfl) hnews (by omega) (by omega) (by
        rw [hby]
        have := nextslicecap_le (need := l.length + 1) (old := cap) (by omega)
        omega)
      refine ⟨_, _, hr, ((Later.refl w).drew).alloc _, by simp, .inr ⟨w.heap.size, _, _, by simp; rfl, hb, heap_alloc_new w.drew _, by simpa using grownCap_ge w (l.length + 1) cap U, grownCap_le_maxLen w _ _ _ (by unfold maxLen; omega), ?_, ?_⟩⟩
      · have hge := grownCap_ge w (l.length + 1) cap U
        rw [show (Value.int IntKind.u8 0).cells = #[.int .u8 0] from rfl, zeroCells_list]
        simp
        omega
      · rw [show (Value.int IntKind.u8 0).cells = #[.int .u8 0] from rfl, zeroCells_list, Nat.mul_one]
        simp only [List.append_toArray, List.map_append, List.length_append, List.map_cons, List.map_nil]
        exact List.take_left' (by simp)
def Turn (B n : Nat) (U : TypeId) (c : UInt8) (W W' : World) : Prop := Later W W' ∨ ∃ r cur, B ≤ r ∧ W.heap[r]? = some (.cells cur U (0, 0)) ∧ n < cur.size ∧ 0 < n ∧ W' = W.setCell ⟨r, n, none⟩ (byteV c)
theorem Turn.below {B n : Nat} {U : TypeId} {c : UInt8} {w W W' : World} (h : Below B w W) (hw : B ≤ w.heap.size) (ht : Turn B n U c W W') : Below B w W' := by
  rcases ht with hL | ⟨r, cur, hr, _, _, _, rfl⟩
  · exact h.trans (hL.below.mono (by have := h.size; omega))
  · exact h.setCell hr _
theorem own_set {U : TypeId} {W : World} {base : Nat} {v : Value} {l : List UInt8} {r k : Nat} {cur : Array Value} {x : Value} (h : Own U W base v l) (hr : W.heap[r]? = some (.cells cur U (0, 0))) (hk : k < cur.size) (hkeep : v.ownBlock = some r → l.length ≤ k ∨ ∃ hi : k < l.length, x = byteV l[k]) : Own U (W.setCell ⟨r, k, none⟩ x) base v l := by
  obtain ⟨h1, h2⟩ := h
  refine ⟨h1, ?_⟩
  rcases h2 with ⟨rfl, hn⟩ | ⟨g, cap, cur', rfl, hb, hh, hn, hc, hs, ht⟩
  · exact .inl ⟨rfl, hn⟩
  · by_cases e : g = r
    · subst e
      rw [hh] at hr
      injection hr with hr
      injection hr with e1 _ _
      subst e1
      refine .inr ⟨g, cap, cur'.setIfInBounds k x, rfl, hb, heap_setCell_same W g k cur' U x hh, hn, hc, by simpa using hs, ?_⟩
      rw [Array.toList_setIfInBounds, Nat.mul_one, List.take_set]
      rw [Nat.mul_one] at ht
      rw [ht]
      rcases hkeep rfl with h3 | ⟨hi, rfl⟩
      · exact List.set_eq_of_length_le (by simpa using h3)
      · apply List.ext_getElem?
        intro j
        rw [List.getElem?_set]
        by_cases e : k = j
        · subst e; rw [if_pos rfl, if_pos (by simpa using hi)]; simp [hi]
        · rw [if_neg e]
    · exact .inr ⟨g, cap, cur', rfl, hb, (heap_setCell_other W _ g x e).trans hh, hn, hc, hs, ht⟩
theorem row_turn {B n : Nat} {U T : TypeId} {c : UInt8} {W W' : World} {g : Nat} {cs : Array Value} (h : Row W g T cs) (hT : T ≠ U ∨ cs.size ≤ n) (ht : Turn B n U c W W') : Row W' g T cs := by
  rcases ht with hL | ⟨r, cur, _, hr, hn, _, rfl⟩
  · exact h.later hL
  · refine h.far (fun e => ?_) _
    have e' : g = r := e
    subst e'
    have h' : W.heap[g]? = some (.cells cs T (0, 0)) := h
    rw [h'] at hr
    injection hr with hr
    injection hr with e1 e2 _
    rcases hT with h1 | h1
    · exact h1 e2
    · subst e1; omega
theorem own_turn {B n : Nat} {U : TypeId} {c : UInt8} {W W' : World} {base : Nat} {v : Value} {l : List UInt8} (h : Own U W base v l) (hn : l.length ≤ n ∨ ∃ hi : n < l.length, l[n] = c) (ht : Turn B n U c W W') : Own U W' base v l := by
  rcases ht with hL | ⟨r, cur, _, hr, hn', _, rfl⟩
  · exact h.later hL
  · refine own_set h hr hn' (fun _ => ?_)
    rcases hn with h1 | ⟨hi, rfl⟩
    · exact .inl h1
    · exact .inr ⟨hi, rfl⟩
end Go.Proofs.YtloiaaolnfimgaaGreat
namespace Go.Proofs.YtloiaaolnfimgaaGreat
open Go.RowKit
theorem row_turn1 {B n : Nat} {U T : TypeId} {c : UInt8} {W W' : World} {g : Nat} {x : Value} (h : Row W g T #[x]) (ht : Turn B n U c W W') : Row W' g T #[x] := by
  rcases ht with hL | ⟨r, cur, h1, h2, h3, h4, e⟩
  · exact h.later hL
  · exact row_turn (B := B) (n := n) (U := U) (c := c) h (.inr h4) (.inr ⟨r, cur, h1, h2, h3, h4, e⟩)
def Put (B : Nat) (T : TypeId) (k : Nat) (W W' : World) : Prop := ∃ g cs cs', B ≤ g ∧ Row W g T cs ∧ Row W' g T cs' ∧ cs'.size = k ∧ W.grownBy W' (some g)
theorem row_ne {W : World} {g g' : Nat} {T U : TypeId} {cs cs' : Array Value} (h : Row W g T cs) (h' : Row W g' U cs') (hT : T ≠ U) : g ≠ g' := fun e => by
  subst e
  have h1 : W.heap[g]? = some (.cells cs T (0, 0)) := h
  have h2 : W.heap[g]? = some (.cells cs' U (0, 0)) := h'
  rw [h1] at h2
  injection h2 with h2
  injection h2 with _ h2 _
  exact hT h2
theorem row_put {B k : Nat} {T U : TypeId} {W W' : World} {g : Nat} {cs : Array Value} (h : Row W g U cs) (hT : T ≠ U) (hp : Put B T k W W') : Row W' g U cs := by
  obtain ⟨g2, cs2, cs', _, hr, _, _, hg⟩ := hp
  exact h.grown hg (fun e => row_ne h hr (fun e => hT e.symm) (by injection e))
structure PrX (T : World → World → Prop) where
  dep : List Nat
  R : (Nat → Value) → World → Prop
  cong : ∀ xs ys W, (∀ k ∈ dep, xs k = ys k) → R xs W → R ys W
  st : ∀ xs W W', R xs W → T W W' → R xs W'
def TP (B n : Nat) (U : TypeId) (c : UInt8) (T : TypeId) (k : Nat) (W W' : World) : Prop := Turn B n U c W W' ∨ Put B T k W W'
def PrX.eq {T : World → World → Prop} (j : Nat) (c : Value) : PrX T := ⟨[j], fun xs _ => xs j = c, fun xs ys _ h e => (h j (by simp)).symm.trans e, fun _ _ _ h _ => h⟩
def VofX {T : World → World → Prop} (Vs : List (PrX T)) (j : Nat) (xs : Nat → Value) (W : World) : Prop := match Vs[j]? with
  | some p => p.R xs W
  | none => True
def depsB {T : World → World → Prop} (ops : Array Oper) (Vs : List (PrX T)) : Bool := (List.range Vs.length).all fun j => match Vs[j]? with
  | some p => p.dep.all fun k => k == j || waits ops j k
  | none => true
theorem VofX.st {T : World → World → Prop} {ops : Array Oper} {Vs : List (PrX T)} (hd : depsB ops Vs = true) : ∀ (i j : Nat) xs v W W', j ≠ i → waits ops j i = false → VofX Vs j xs W → T W W' → VofX Vs j (upd xs i v) W' := fun i j xs v W W' hne hw h hL => by
  unfold VofX at *
  cases hj : Vs[j]? with
  | none => trivial
  | some p =>
    rw [hj] at h
    refine p.cong xs _ W' (fun k hk => ?_) (p.st xs W W' h hL)
    have hjl : j < Vs.length := (List.getElem?_eq_some_iff.1 hj).1
    unfold depsB at hd
    rw [List.all_eq_true] at hd
    have h1 := hd j (List.mem_range.2 hjl)
    rw [hj] at h1
    simp only [List.all_eq_true] at h1
    have h2 := h1 k hk
    have hki : k ≠ i := fun e => by
      subst e
      rw [hw] at h2
      simp at h2
      exact hne h2.symm
    rw [upd_ne xs v hki]
section
variable (B n : Nat) (U : TypeId) (c : UInt8) (T : TypeId) (hTU : T ≠ U) (k j : Nat)
def PrX.one : PrX (TP B n U c T k) := ⟨[j], fun xs W => ∃ g, xs j = .slice (some ⟨g, 0, none⟩) 1 1 ∧ Row W g U #[byteV c],
  fun xs ys _ h ⟨g, e, h2⟩ => ⟨g, (h j (by simp)).symm.trans e, h2⟩, fun _ _ _ ⟨g, e, h⟩ ht => ⟨g, e, by rcases ht with ht | ht; exact row_turn1 h ht; exact row_put h hTU ht⟩⟩
end
end Go.Proofs.YtloiaaolnfimgaaGreat
namespace Go.Proofs.YtloiaaolnfimgaaGreat
open Go.RowKit
section
variable {F : Fence} {n : Nat} {P : Program}
theorem wpIn_range_D {α : Type} {g : Operand} {ps : Array Tmp} {assign body : Code} {Q : Exit → Act → World → Prop} {a : Act} {w : World}
    (hro : F.round = none) (h1 : 1 ≤ n) {gf : Nat} {lb : Array Value} (hg : a.eval g = .func (.func gf) #[] lb) (hFg : F.fn gf) (eg : ∀ args w, (callFunc gf args).run P w = .ok (.enter gf args) w)
    {encs : α → Array Value} {Kp : World → World → Prop} {S Sp : List α → Prop} {Ok : List α → α → Prop} {C : Nat → Prop} {w0 : World} (hseq : SeqC F (n - 1) P gf lb encs Kp S Sp Ok C w0)
    (hC : ∀ r, C r → r < w.heap.size) (hKt : ∀ {A B D : World}, Kp A B → Kp B D → Kp A D) (hKb : ∀ (W : World) (l : Nat) (o ob : Obj), w.heap.size ≤ l → W.heap[l]? = some ob → ob.isCells = false → Kp W (W.putObj l o)) (hb0 : Below w0.heap.size w0 w) (hps : ∀ x, (encs x).size = ps.size)
    (I : List α → World → Prop) (Ix : Code → List α → World → Prop) (hI : Stab w.heap.size C I) (hIx : ∀ c, Stab w.heap.size C (Ix c)) (h0 : I [] w)
    (Ax : List α → α → Act → World → Prop) (hAx : ∀ pre x a', Stab w.heap.size C (fun (_ : Unit) W => Ax pre x a' W))
    (hassign : ∀ (l : Nat) (pre : List α) (x : α) (W : World) (K : Act → World → Prop), I pre W → Ok pre x → (∀ a' Y, KeepsFrom w.heap.size W Y → Kp W Y → I pre Y → Ax pre x a' Y → K a' Y) →
      assign.wpIn (F.inRound l) (n - 1 - 1) P (Exit.then K (fun _ _ _ => False)) { tmps := (ps.zip (encs x)).foldl (fun t (p, v) => t.setIfInBounds p v) a.tmps, defers := [] } W)
    (hbody : ∀ (l : Nat) (pre : List α) (x : α) (a' : Act) (W : World), w.heap.size ≤ l → (∃ r, W.heap[l]? = some (.loop r)) → I pre W → Ok pre x → Ax pre x a' W → body.wpIn (F.inRound l) (n - 1 - 1) P (leftC w.heap.size Kp I Ix (pre ++ [x]) W) a' W)
    (hdone : ∀ (D : Nat) (xs : List α) (W : World), w.heap.size ≤ D → S xs → I xs W → W.heap[D]? = some (.deferred (some [])) → Q .normal { a with defers := { target := .collected D, args := #[] } :: a.defers } W)
    (hstop : ∀ (D : Nat) (c : Code) (pre : List α) (W : World), w.heap.size ≤ D → Sp pre → Ix c pre W → W.heap[D]? = some (.deferred (some [])) → c.wpIn F n P Q { a with defers := { target := .collected D, args := #[] } :: a.defers } W) :
    (Code.rangeFunc g ps assign body).wpIn F n P Q a w := by
  refine wpIn_rangeFunc fun fn hfn => ?_
  rw [hro]
  have book1 : Booked (bookOf fn a.tmps ps assign body w.heap.size) w.heap.size .ready none ((w.alloc (.deferred (some []))).alloc (.loop (bookOf fn a.tmps ps assign body w.heap.size .ready none))) := by
    refine ⟨?_, (Below.heap_alloc _ _ _ (by simp)).trans (World.alloc_heap_new w _)⟩
    have := World.alloc_heap_new (w.alloc (.deferred (some []))) (.loop (bookOf fn a.tmps ps assign body w.heap.size .ready none))
    rwa [World.size_alloc] at this
  have hb1 : Below w0.heap.size w0 ((w.alloc (.deferred (some []))).alloc (.loop (bookOf fn a.tmps ps assign body w.heap.size .ready none))) :=
    hb0.trans ((((Below.refl _ w).alloc (Nat.le_refl _) _).alloc (by simp) _).mono hb0.size)
  have hi1 := hI.alloc (.loop (bookOf fn a.tmps ps assign body w.heap.size .ready none)) (hI.alloc (.deferred (some [])) h0)
  have henter := run_enterLoop_outer (P := P) (w := w) fn a.tmps ps assign body
  generalize hW1 : (w.alloc (.deferred (some []))).alloc (.loop (bookOf fn a.tmps ps assign body w.heap.size .ready none)) = W1 at book1 hb1 hi1
  refine ⟨w.heap.size + 1, [{ target := .collected w.heap.size, args := #[] }], W1, { target := .fn (.func gf) lb, args := #[.func (.yield (w.heap.size + 1)) #[] #[]] }, W1, gf,
    #[.func (.yield (w.heap.size + 1)) #[] #[]] ++ lb, W1, ?_, ?_, ?_, ?_, fun _ => h1, ?_⟩
  · rw [← hW1]; exact henter
  · simp only [resolve, hg]; simp [go_sem]
  · intro f' hf'; simp [Target.leads] at hf'; subst hf'; exact hFg
  · simp [invoke, go_sem, eg]
  clear henter hW1
  refine (hseq (w.heap.size + 1) (fun pre W => I pre W ∧ Booked (bookOf fn a.tmps ps assign body w.heap.size) w.heap.size .ready none W)
    (fun pre W => ∃ c, Ix c pre W ∧ Booked (bookOf fn a.tmps ps assign body w.heap.size) w.heap.size .done (some c) W) W1 hb1
    (fun s X Y row hs hgr hr => ⟨hI.abC s X Y row hs.1 hgr hr, hs.2.grown hgr (fun r e => hC r (hr r e))⟩)
    (fun s X Y row hs hgr hr => by obtain ⟨c, hc, hk⟩ := hs; exact ⟨c, (hIx c).abC s X Y row hc hgr hr, hk.grown hgr (fun r e => hC r (hr r e))⟩)
    (fun pre x X hX hok => ?_) ⟨hi1, book1⟩).mono ?_
  · obtain ⟨hi, hbk⟩ := hX
    refine ⟨fn, _, assign, body, run_yield (P := P) (args := encs x) hbk.loop (hps x), roundIn_of_wpIn hfn (hassign _ pre x X _ hi hok ?_)⟩
    intro a' Y hkf hkp hiY hax
    have hbY := hbk.keeps hkf
    refine ⟨_, run_beginRound hbY.loop rfl, ?_⟩
    have hbZ : Booked (bookOf fn a.tmps ps assign body w.heap.size) w.heap.size .busy none (Y.putObj (w.heap.size + 1) (.loop { bookOf fn a.tmps ps assign body w.heap.size .ready none with state := .busy })) := hbY.turn
    refine wpIn_mono (hbody _ pre x a' _ (by omega) ⟨_, hbZ.loop⟩ (hI.put _ hiY (by omega) hbY.loop rfl) hok ((hAx pre x a').put (s := ()) _ hax (by omega) hbY.loop rfl)) ?_
    have fin : ∀ (jump : Option Code) (Z : World), KeepsFrom w.heap.size (Y.putObj (w.heap.size + 1) (.loop { bookOf fn a.tmps ps assign body w.heap.size .ready none with state := .busy })) Z →
        (Instr.endRound (w.heap.size + 1) jump).run P Z = .ok (.bool jump.isNone) (Z.putObj (w.heap.size + 1) (.loop (bookOf fn a.tmps ps assign body w.heap.size (if jump.isNone then .ready else .done) jump))) ∧
        Booked (bookOf fn a.tmps ps assign body w.heap.size) w.heap.size .busy none Z := fun jump Z hkZ =>
      ⟨run_endRound (P := P) jump (hbZ.keeps hkZ).loop, hbZ.keeps hkZ⟩
    rintro e a3 Z hp
    cases e with
    | normal =>
      obtain ⟨hk3, hkp3, hi3⟩ := hp
      obtain ⟨hr, hb3⟩ := fin none Z hk3
      exact ⟨_, _, hr, .inl ⟨rfl, ⟨hI.put _ hi3 (by omega) hb3.loop rfl, hb3.turn⟩, hKt hkp (hKt (hKt (hKb _ _ _ _ (by omega) hbY.loop rfl) hkp3) (hKb _ _ _ _ (by omega) hb3.loop rfl))⟩⟩
    | ret =>
      obtain ⟨hk3, hi3⟩ := hp
      obtain ⟨hr, hb3⟩ := fin (some .ret) Z hk3
      exact ⟨_, _, hr, .inr ⟨rfl, .ret, (hIx _).put _ hi3 (by omega) hb3.loop rfl, hb3.turn⟩⟩
    | exit id =>
      obtain ⟨hk3, hi3⟩ := hp
      obtain ⟨hr, hb3⟩ := fin (some (.exit id)) Z hk3
      exact ⟨_, _, hr, .inr ⟨rfl, .exit id, (hIx _).put _ hi3 (by omega) hb3.loop rfl, hb3.turn⟩⟩
    | goto t =>
      obtain ⟨hk3, hi3⟩ := hp
      obtain ⟨hr, hb3⟩ := fin (some (.goto t)) Z hk3
      exact ⟨_, _, hr, .inr ⟨rfl, .goto t, (hIx _).put _ hi3 (by omega) hb3.loop rfl, hb3.turn⟩⟩
    | panic ch => exact hp.elim
    | outgrown => exact hp.elim
  · rintro e W2 ⟨⟨v, rfl⟩, (⟨xs, hS, hi, hbk⟩ | ⟨pre, hSp, c, hi, hbk⟩)⟩
    · exact ⟨none, _, run_endLoop (P := P) hbk.loop (by simp [bookOf]), hdone _ xs _ (Nat.le_refl _) hS (hI.put _ hi (by omega) hbk.loop rfl) ((World.putObj_heap_other (by omega)).trans hbk.defs)⟩
    · exact ⟨some c, _, run_endLoop (P := P) hbk.loop (by simp [bookOf]), hstop _ c pre _ (Nat.le_refl _) hSp ((hIx c).put _ hi (by omega) hbk.loop rfl) ((World.putObj_heap_other (by omega)).trans hbk.defs)⟩
end
end Go.Proofs.YtloiaaolnfimgaaGreat
namespace Go.Proofs.YtloiaaolnfimgaaGreat
open Go.RowKit
def OwnQ (U : TypeId) (w : World) (base : Nat) (v : Value) (l : List UInt8) : Prop :=
  ∃ g cap cur, ∃ fr : Nat × Nat, v = .slice (some ⟨g, 0, none⟩) l.length cap ∧ base ≤ g ∧ w.heap[g]? = some (.cells cur U fr) ∧ (∀ i, i < cur.size → ¬ (fr.1 ≤ i ∧ i < fr.2)) ∧ l.length ≤ cap ∧ cap ≤ maxLen ∧ cur.size = cap ∧ cur.toList.take l.length = l.map byteV
section
variable {U : TypeId} {w w' : World} {base : Nat} {v : Value} {l : List UInt8}
theorem OwnQ.keep (h : OwnQ U w base v l) (hk : ∀ b, b < w.heap.size → v.ownBlock = some b → w'.heap[b]? = w.heap[b]?) : OwnQ U w' base v l := by
  obtain ⟨g, cap, cur, fr, rfl, h1, h2, h3⟩ := h
  exact ⟨g, cap, cur, fr, rfl, h1, by rw [hk g (Array.getElem?_eq_some_iff.1 h2).1 rfl]; exact h2, h3⟩
theorem OwnQ.below (h : OwnQ U w base v l) (hb : Below w.heap.size w w') : OwnQ U w' base v l := h.keep fun b hb' _ => hb.block b hb'
theorem OwnQ.at_ (h : OwnQ U w base v l) : ∀ k, v.ownBlock = some k → base ≤ k ∧ k < w.heap.size := by
  obtain ⟨g, cap, cur, fr, rfl, h1, h2, h3⟩ := h
  intro k e
  simp [Value.ownBlock] at e
  subst e
  exact ⟨h1, (Array.getElem?_eq_some_iff.1 h2).1⟩
theorem OwnQ.slice (h : OwnQ U w base v l) : ∃ g c, v = .slice (some ⟨g, 0, none⟩) l.length c ∧ l.length ≤ c ∧ c ≤ 9223372036854775807 ∧ base ≤ g ∧ Rd w (some ⟨g, 0, none⟩) l := by
  obtain ⟨g, cap, cur, fr, rfl, h1, h2, h3, h4, h5, h6, h7⟩ := h
  refine ⟨g, cap, rfl, h4, by unfold maxLen at h5; omega, h1, fun _ => ⟨g, 0, rfl, fun i hi => ?_⟩⟩
  rw [cell_of_row w g (0 + i) cur U fr h2, Nat.zero_add]
  have : (cur.toList.take l.length)[i]? = (l.map byteV)[i]? := by rw [h7]
  rw [List.getElem?_take_of_lt hi, Array.getElem?_toList, List.getElem?_map, List.getElem?_eq_getElem hi] at this
  exact this
end
theorem conv_own (w : World) (l : List UInt8) (hl : l.length ≤ 9223372036854775807) : ∃ W cap, (convert 9 60 (.string ⟨l.toArray⟩)).run Tryz.prog w = .ok (.slice (some ⟨w.heap.size, 0, none⟩) l.length cap) W ∧ OwnQ 5 W w.heap.size (.slice (some ⟨w.heap.size, 0, none⟩) l.length cap) l ∧ Later w W := by
  refine ⟨_, _, Lib.run_convert_string_bytes (P := Tryz.prog) w 9 60 5 ⟨l.toArray⟩ Tryz.underlying9 Tryz.underlying60 Tryz.underlying5, ⟨w.heap.size, _, _, _, rfl, Nat.le_refl _, Lib.bytesWorld_at_new _ _ _, fun i hi h => ?_, grownCap_ge _ _ _ _, grownCap_le_maxLen w l.length 0 5 (by unfold maxLen; exact hl), ?_, ?_⟩, ⟨rfl, rfl, rfl, by rw [Lib.bytesWorld_size]; omega, fun b hb => Lib.bytesWorld_at_old _ _ _ b hb⟩⟩
  · omega
  · have h1 := grownCap_ge w l.length 0 5
    have e : (ByteArray.mk l.toArray).size = l.length := by simp [ByteArray.size]
    rw [Lib.bytesCells, Array.size_append, Array.size_map, Array.size_replicate, e]
    simp
    omega
  · simp [Lib.bytesCells]
theorem take_pushed (l : List UInt8) (c : UInt8) (X : List Value) : List.take (l ++ [c]).length (l.map byteV ++ byteV c :: X) = (l ++ [c]).map byteV := by
  have e : l.map byteV ++ byteV c :: X = (l.map byteV ++ [byteV c]) ++ X := by simp
  rw [e, show (l ++ [c]).length = (l.map byteV ++ [byteV c]).length from by simp, List.take_left]
  simp
end Go.Proofs.YtloiaaolnfimgaaGreat
