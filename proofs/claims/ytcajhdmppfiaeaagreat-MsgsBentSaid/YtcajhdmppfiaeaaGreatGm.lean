/- What two ends say: plain laws. -/
import Derived.Test.YtcajhdmppfiaeaaGreatGb4
set_option linter.unusedVariables false
set_option linter.unusedSimpArgs false
namespace Go.Proofs.YtcajhdmppfiaeaaGreat
open Go.RowKit
/-- What is said. -/
structure Ms.Said where
  kind : Int
  fund : List UInt8
  tix : Int
  cap : Int
  dust : Int
  fee : Int
  delay : Int
  key0 : List UInt8
  key1 : List UInt8
  reserve : Int
  amount : Int
  point : List UInt8
  next : List UInt8
  key : List UInt8
  hash : List UInt8
  tag : List UInt8
  secret : List UInt8
  id : Int
  number : Int
  index : Int
  expiry : Int
  code : Int
  route : List UInt8
deriving DecidableEq
namespace Ms
abbrev z32 : List UInt8 := Sha.zeros 32
def blank (k : Int) : Said := ⟨k, z32, 0, 0, 0, 0, 0, z32, z32, 0, 0, z32, z32, z32, z32, z32, z32, 0, 0, 0, 0, 0, []⟩
/-- The numbers: 0 tix, 1 cap, 2 dust, 3 fee, 4 delay, 5 reserve, 6 amount, 7 id, 8 number, 9 index, 10 expiry, 11 code. -/
def Said.n (s : Said) : Nat → Int
  | 0 => s.tix | 1 => s.cap | 2 => s.dust | 3 => s.fee | 4 => s.delay | 5 => s.reserve | 6 => s.amount | 7 => s.id | 8 => s.number | 9 => s.index | 10 => s.expiry | 11 => s.code | _ => 0
def Said.setN (s : Said) (j : Nat) (v : Int) : Said := match j with
  | 0 => { s with tix := v } | 1 => { s with cap := v } | 2 => { s with dust := v } | 3 => { s with fee := v } | 4 => { s with delay := v } | 5 => { s with reserve := v } | 6 => { s with amount := v } | 7 => { s with id := v } | 8 => { s with number := v } | 9 => { s with index := v } | 10 => { s with expiry := v } | 11 => { s with code := v } | _ => s
/-- The hashes: 0 fund, 1 key0, 2 key1, 3 point, 4 next, 5 key, 6 hash, 7 tag, 8 secret. -/
def Said.h (s : Said) : Nat → List UInt8
  | 0 => s.fund | 1 => s.key0 | 2 => s.key1 | 3 => s.point | 4 => s.next | 5 => s.key | 6 => s.hash | 7 => s.tag | 8 => s.secret | _ => []
def Said.setH (s : Said) (j : Nat) (v : List UInt8) : Said := match j with
  | 0 => { s with fund := v } | 1 => { s with key0 := v } | 2 => { s with key1 := v } | 3 => { s with point := v } | 4 => { s with next := v } | 5 => { s with key := v } | 6 => { s with hash := v } | 7 => { s with tag := v } | 8 => { s with secret := v } | _ => s
def Said.setR (s : Said) (v : List UInt8) : Said := { s with route := v }
/-- Each hash has 32 bytes. -/
def Said.wf (s : Said) : Prop := ∀ j, j < 9 → (s.h j).length = 32
theorem z32_len : z32.length = 32 := by simp [z32, Sha.zeros]
theorem blank_wf (k : Int) : (blank k).wf := fun j hj => by
  rcases j with _ | _ | _ | _ | _ | _ | _ | _ | _ | j
  all_goals first | exact z32_len | omega
theorem Said.setN_wf {s : Said} (h : s.wf) (j : Nat) (v : Int) : (s.setN j v).wf := fun i hi => by
  have := h i hi
  rcases j with _ | _ | _ | _ | _ | _ | _ | _ | _ | _ | _ | _ | j
  all_goals exact this
theorem Said.setR_wf {s : Said} (h : s.wf) (v : List UInt8) : (s.setR v).wf := fun i hi => h i hi
theorem Said.setH_wf {s : Said} (h : s.wf) (j : Nat) (v : List UInt8) (hv : v.length = 32) : (s.setH j v).wf := fun i hi => by
  have := h i hi
  rcases j with _ | _ | _ | _ | _ | _ | _ | _ | _ | j
  all_goals rcases i with _ | _ | _ | _ | _ | _ | _ | _ | _ | i
  all_goals first | exact this | exact hv | omega
/-- Part of what a kind names. -/
inductive Fld where
  | num (j : Nat) (most : Int)
  | hash (j : Nat)
  | route
deriving DecidableEq
abbrev A : Int := 1125899906842624
abbrev M : Int := 2147483647
/-- What kinds name. -/
def flds (k : Int) : List Fld :=
  if k = 1 then [.num 1 A, .num 2 M, .num 3 M, .num 4 M, .hash 1, .num 5 A, .num 6 A, .hash 3, .hash 4]
  else if k = 2 then [.hash 5, .hash 3, .hash 4]
  else if k = 3 then [.hash 6, .num 9 M, .hash 7]
  else if k = 4 then [.hash 7]
  else if k = 6 then [.num 7 M, .num 6 A, .hash 6, .num 10 M, .route]
  else if k = 7 then [.num 7 M, .hash 8]
  else if k = 8 then [.num 7 M, .num 11 M]
  else if k = 9 then [.num 8 M, .hash 7]
  else if k = 10 then [.num 8 M, .hash 8, .hash 4]
  else if k = 11 then [.num 8 M, .num 7 M]
  else if k = 13 then [.num 6 A, .hash 7]
  else if k = 14 then [.num 11 M]
  else []
def zero1 (s : Said) : Fld → Said
  | .num j _ => s.setN j 0
  | .hash j => s.setH j z32
  | .route => s.setR []
def zeroed (l : List Fld) (s : Said) : Said := l.foldl zero1 s
def isKind (k : Int) : Bool := decide (1 ≤ k) && decide (k ≤ 14)
def within (n : Int) : Bool := decide (0 ≤ n) && decide (n ≤ 2147483647)
def amt (n : Int) : Bool := decide (0 ≤ n) && decide (n ≤ 1125899906842624)
/-- May terms be (of which the second key is the first one with another first byte)? -/
def termsB (s : Said) : Bool := decide (0 ≤ s.tix) && decide (s.tix ≤ 23) && decide (1000 ≤ s.cap) && decide (s.cap ≤ 1125899906842624) && decide (1 ≤ s.dust) && decide (s.dust ≤ 500) && decide (0 ≤ s.fee) && decide (s.fee ≤ 400) && decide (1 ≤ s.delay) && decide (s.delay ≤ 1000)
/-- What a kind asks besides. -/
def special (s : Said) : Bool :=
  if s.kind = 1 then termsB s && (decide (0 ≤ s.reserve) && decide (s.reserve ≤ s.cap / 10)) && decide (s.amount ≤ s.cap - s.fee - s.reserve)
  else if s.kind = 3 then decide (s.index < 24)
  else if s.kind = 6 then decide (0 < s.amount) && decide (0 < s.expiry) && decide (s.route.length ≤ 512)
  else if s.kind = 8 ∨ s.kind = 14 then decide (1 ≤ s.code) && decide (s.code ≤ 999)
  else true
/-- May it be said? -/
def right (s : Said) : Bool := isKind s.kind && decide (zeroed (flds s.kind) s = blank s.kind) && (within s.id && within s.number && within s.index && within s.expiry) && amt s.amount && special s
/-- Its bytes. -/
def lay (s : Said) : Fld → List UInt8
  | .num j _ => Wr.bytes (s.n j).toNat
  | .hash j => s.h j
  | .route => Wr.bytes s.route.length ++ s.route
def laid (l : List Fld) (s : Said) : List UInt8 := (l.map (lay s)).flatten
def body (s : Said) : List UInt8 := Wr.bytes s.kind.toNat ++ laid (flds s.kind) s
/-- A reader's state, and what was read. -/
structure RdS where
  l : List UInt8
  bad : Bool
  s : Said
def pad32 (l : List UInt8) : List UInt8 := if l.length = 32 then l else z32
def take1 (r : RdS) : Fld → RdS
  | .num j m => ⟨(Wr.numR r.l r.bad m).1.1, (Wr.numR r.l r.bad m).1.2, r.s.setN j (Wr.numR r.l r.bad m).2.1⟩
  | .hash j => ⟨(Wr.hashR r.l r.bad).1.1, (Wr.hashR r.l r.bad).1.2, r.s.setH j (pad32 (Wr.hashR r.l r.bad).2.1)⟩
  | .route => ⟨(Wr.textR r.l r.bad 512).1.1, (Wr.textR r.l r.bad 512).1.2, r.s.setR (Wr.textR r.l r.bad 512).2.1⟩
def start (b : List UInt8) : RdS := ⟨(Wr.numR b false 14).1.1, (Wr.numR b false 14).1.2, blank (Wr.numR b false 14).2.1⟩
def taken (l : List Fld) (r : RdS) : RdS := l.foldl take1 r
def final (b : List UInt8) : RdS := taken (flds (start b).s.kind) (start b)
def okB (b : List UInt8) : Bool := !(final b).bad && (final b).l.isEmpty && right (final b).s
/-- What a body says (blank: nothing). -/
def parse (b : List UInt8) : Said := if okB b then (final b).s else blank 0
def parseE (b : List UInt8) : Int := if okB b then 0 else 210
def bodyR (s : Said) : List UInt8 := if right s then body s else []
def bodyE (s : Said) : Int := if right s then 0 else 2
end Ms
end Go.Proofs.YtcajhdmppfiaeaaGreat
