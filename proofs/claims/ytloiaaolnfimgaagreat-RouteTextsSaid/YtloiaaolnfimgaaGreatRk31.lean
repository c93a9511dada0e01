/- Walks, route: Parse, where the text holds bytes: the reading. -/
import Derived.Test.YtloiaaolnfimgaaGreatRk30
import Derived.Test.YtloiaaolnfimgaaGreatRyv
import Derived.Test.YtloiaaolnfimgaaGreatRk19
set_option linter.unusedVariables false
set_option linter.unusedSimpArgs false
namespace Go.Proofs.YtloiaaolnfimgaaGreat
open Go.RowKit Rt
namespace Rt
def rd1 (b : List UInt8) : (List UInt8 × Bool) × List UInt8 × Int := Wr.hashR b false
def rd2 (b : List UInt8) : (List UInt8 × Bool) × List UInt8 × Int := Wr.hashR (rd1 b).1.1 (rd1 b).1.2
def rd3 (b : List UInt8) : (List UInt8 × Bool) × Int × Int := Wr.numR (rd2 b).1.1 (rd2 b).1.2 1125899906842624
def rd4 (b : List UInt8) : (List UInt8 × Bool) × Int × Int := Wr.numR (rd3 b).1.1 (rd3 b).1.2 1000
def invOf (b : List UInt8) : Hop := ⟨(rd1 b).2.1, (rd2 b).2.1, (rd3 b).2.1, (rd4 b).2.1⟩
def errAt (b : List UInt8) : Nat → Int
  | 0 => (rd1 b).2.2
  | 1 => (rd2 b).2.2
  | 2 => (rd3 b).2.2
  | 3 => (rd4 b).2.2
  | _ => 0
def stAt (b : List UInt8) : Nat → List UInt8 × Bool
  | 0 => (b, false)
  | 1 => (rd1 b).1
  | 2 => (rd2 b).1
  | 3 => (rd3 b).1
  | _ => (rd4 b).1
def endB (b : List UInt8) : Int := (Wr.endR (rd4 b).1.1 (rd4 b).1.2).2
def okRd (b : List UInt8) : Bool := (List.range 4).all fun j => decide (errAt b j = 0)
theorem invOf_wf {b : List UInt8} (h : okRd b = true) : (invOf b).wf := by
  have h0 : (rd1 b).2.2 = 0 := of_decide_eq_true (List.all_eq_true.1 h 0 (by simp))
  have h1 : (rd2 b).2.2 = 0 := of_decide_eq_true (List.all_eq_true.1 h 1 (by simp))
  have key : ∀ l bad, (Wr.hashR l bad).2.2 = 0 → (Wr.hashR l bad).2.1.length = 32 := fun l bad => by
    unfold Wr.hashR
    by_cases h : 32 ≤ l.length <;> cases bad <;> simp [h]
  exact ⟨key _ _ h0, key _ _ h1⟩
end Rt
/-- What Parse has come to while it reads. -/
structure PRd (w : World) (g q q3 q7 : Nat) (A0 : Option Addr) (b : List UInt8) (k : Nat) (W : World) : Prop where
  below : Below w.heap.size w W
  at_ : RAt W g A0 b (stAt b k).1 (stAt b k).2
  k7 : Row W q7 83 #[.pointer (some ⟨g, 0, none⟩)]
  k2 : Row W q 51 (hopC noHop)
  k3 : Row W q3 28 #[.int .i64 0]
  err : ∀ j, j < k → errAt b j = 0
theorem PRd.later {w W W' : World} {g q q3 q7 : Nat} {A0 : Option Addr} {b : List UInt8} {k : Nat} (h : PRd w g q q3 q7 A0 b k W) (hL : Later W W') : PRd w g q q3 q7 A0 b k W' :=
  ⟨h.below.trans (hL.below.mono h.below.size), h.at_.later hL, h.k7.later hL, h.k2.later hL, h.k3.later hL, h.err⟩
theorem PRd.step {w W W' : World} {g q q3 q7 : Nat} {A0 : Option Addr} {b : List UInt8} {k : Nat} (h : PRd w g q q3 q7 A0 b k W) (hgw : w.heap.size ≤ g) (hq : q ≠ g) (hq3 : q3 ≠ g) (hq7 : q7 ≠ g) (hs : Same (fun k => k < W.heap.size ∧ k ≠ g) W W') (ha : RAt W' g A0 b (stAt b (k + 1)).1 (stAt b (k + 1)).2) (he : errAt b k = 0) : PRd w g q q3 q7 A0 b (k + 1) W' :=
  ⟨(Same.of_below h.below |>.trans (hs.mono fun k hk => ⟨Nat.lt_of_lt_of_le hk h.below.size, by omega⟩)).below, ha, h.k7.same hs ⟨h.k7.lt, hq7⟩, h.k2.same hs ⟨h.k2.lt, hq⟩, h.k3.same hs ⟨h.k3.lt, hq3⟩, fun j hj => by
    by_cases e : j = k
    · rw [e]; exact he
    · exact h.err j (by omega)⟩
theorem PRd.low {w W W' : World} {g q q3 q7 : Nat} {A0 : Option Addr} {b : List UInt8} {k : Nat} (h : PRd w g q q3 q7 A0 b k W) (hgw : w.heap.size ≤ g) (hs : Same (fun k => k < W.heap.size ∧ k ≠ g) W W') : Below w.heap.size w W' :=
  (Same.of_below h.below |>.trans (hs.mono fun k hk => ⟨Nat.lt_of_lt_of_le hk h.below.size, by omega⟩)).below
theorem loadReader {w : World} {q7 g : Nat} (h : Row w q7 83 #[.pointer (some ⟨g, 0, none⟩)]) : (Instr.loadAt 83 (.pointer (some ⟨q7, 0, none⟩))).run Tryz.prog w = .ok (.agg #[.pointer (some ⟨g, 0, none⟩)]) w := run_load_row h Tryz.underlying83 rfl (by kernel_rfl)
theorem allocReader (w : World) : (Instr.alloc 83 true (.tuple #[])).run Tryz.prog w = .ok (.pointer (some ⟨w.heap.size, 0, none⟩)) (w.alloc (.cells #[.pointer none] 83)) := by kernel_rfl
theorem buildReader (g : Nat) (w : World) : (Instr.build 83 #[(0, .pointer (some ⟨g, 0, none⟩))]).run Tryz.prog w = .ok (.agg #[.pointer (some ⟨g, 0, none⟩)]) w := by kernel_rfl
theorem newReader (w : World) (g : Nat) : ∃ w', (Instr.storeAt 83 (.pointer (some ⟨w.heap.size, 0, none⟩)) (.agg #[.pointer (some ⟨g, 0, none⟩)])).run Tryz.prog (w.alloc (.cells #[.pointer none] 83)) = .ok () w' ∧ Row w' w.heap.size 83 #[.pointer (some ⟨g, 0, none⟩)] ∧ Later w w' := by
  obtain ⟨w', h1, h2, h3⟩ := run_put_row (P := Tryz.prog) (T := 83) (vs := #[.pointer (some ⟨g, 0, none⟩)]) (Row.new w 83 #[.pointer none]) rfl (by kernel_rfl) (by kernel_rfl)
  exact ⟨w', h1, h2, Below.grown (below_new w _) h3 (by simp) (fun j e => by cases e; exact Nat.le_refl _)⟩
theorem parse_fail (q q3 : Nat) (h : Hop) (hh : h.wf) (x : Int) (w W : World) (Φ : Ending → World → Prop) (a : Act) (hd : a.defers = [{ target := .fn (.func 30) #[], args := #[.pointer (some ⟨q3, 0, none⟩), .func (.func 65) #[] #[.pointer (some ⟨q, 0, none⟩)]] }]) (h2 : a.eval (.tmp 2) = .pointer (some ⟨q, 0, none⟩)) (h3 : a.eval (.tmp 3) = .pointer (some ⟨q3, 0, none⟩))
    (k2 : Row W q 51 (hopC h)) (k3 : Row W q3 28 #[.int .i64 x]) (hb : Below w.heap.size w W) (hq : w.heap.size ≤ q) (hq3 : w.heap.size ≤ q3) (hΦ : ∀ w', Below w.heap.size w w' → Φ (.returned (.tuple #[.agg (hopC noHop), .int .i64 351])) w') : bodyPostD Tryz.prog Tryz.f18 Φ (.panic (gaveUp 351)) a W := by
  obtain ⟨T, ds⟩ := a
  simp only at hd
  subst hd
  refine leaves_cons (f := 30) (args := #[.pointer (some ⟨q3, 0, none⟩), .func (.func 65) #[] #[.pointer (some ⟨q, 0, none⟩)]]) (by simp) (by simp [go_sem]) ?_
  refine (parse_caught q q3 h hh x _ w W k2 k3 hb hq hq3).mono ?_
  rintro e u' w'' ⟨rfl, rfl, kQ, cE, hbG⟩
  show ∃ v, _ ∧ _
  exact ⟨_, results_cc rfl _ _ q q3 51 (hopC noHop) _ (.int .i64 351) h2 h3 kQ Tryz.underlying51 rfl (by rw [hopC_size noHop_wf]; exact infoInv) (loadErr cE), hΦ _ hbG⟩
theorem buildInvF0 (f g : Nat → Value) (a x : Int) (w : World) : (Instr.build 51 #[(0, .agg ((List.range 32).map f).toArray), (1, .agg ((List.range 32).map g).toArray), (2, .int .i64 a), (3, .int .i64 x)]).run Tryz.prog w = .ok (.agg ((List.range 32).map f ++ (List.range 32).map g ++ [Value.int .i64 a, Value.int .i64 x]).toArray) w := by kernel_rfl
theorem buildInvF {h : Hop} (hw : h.wf) (w : World) : (Instr.build 51 #[(0, .agg (hC h.key)), (1, .agg (hC h.next)), (2, .int .i64 h.amt), (3, .int .i64 h.exp)]).run Tryz.prog w = .ok (.agg (hopC h)) w := by
  have h1 := arr_range (hC h.key) 32 (hC_size h.key (Nat.le_of_eq hw.1))
  have h2 := arr_range (hC h.next) 32 (hC_size h.next (Nat.le_of_eq hw.2))
  unfold hopC
  rw [h1, h2]
  exact buildInvF0 _ _ _ _ w
def Rt.vals (b : List UInt8) : List Value := [.agg (hC (rd1 b).2.1), .agg (hC (rd2 b).2.1), .int .i64 (rd3 b).2.1, .int .i64 (rd4 b).2.1, .agg (hopC (invOf b))]
def Rt.parsedB (b : List UInt8) : Hop × Int := if okRd b && (decide (endB b = 0) && okInv (invOf b)) then (invOf b, 0) else (noHop, 351)
set_option maxRecDepth 100000 in
set_option maxHeartbeats 4000000 in
theorem parse_good (s : List UInt8) (w : World) (hpf : Lib.hasPrefix s markL = true) (hl : s.length ≤ 300) (hox : okHex (s.drop 5) = true) (h00 : openE (unhex (s.drop 5)) = 0) :
    Calls Tryz.prog 18 #[.string ⟨s.toArray⟩] w fun e w' => e = .returned (.tuple #[.agg (hopC (parsedB (openB (unhex (s.drop 5)))).1), .int .i64 (parsedB (openB (unhex (s.drop 5)))).2]) ∧ Below w.heap.size w w' := by
  refine Calls.post fun Φ HΦ => ?_
  have k2 := (Row.new w 51 (hopC noHop)).alloc (.cells #[.int .i64 0] 28)
  have k3 := Row.new (w.alloc (.cells (hopC noHop) 51)) 28 #[.int .i64 0]
  have hb := below_new2 w (.cells (hopC noHop) 51) (.cells #[.int .i64 0] 28)
  rw [World.size_alloc] at k3
  have hmf : ∀ (fn : Fn) (first cap : Array Value) (w : World), (Instr.makeFunc fn first cap).run Tryz.prog w = .ok (.func fn first cap) w := fun _ _ _ _ => rfl
  go_enter_defers Tryz.func18, Tryz.ntmps18
  go_upto_region 1 with (first
    | (with_reducible refine wpList_alloc rfl 51 rfl (allocInv _) ?_)
    | fail)
  obtain ⟨q, hq0⟩ : ∃ q, q = w.heap.size := ⟨_, rfl⟩
  obtain ⟨q3, hq30⟩ : ∃ q, q = w.heap.size + 1 := ⟨_, rfl⟩
  try simp only [World.size_alloc]
  rw [← hq30] at k3 ⊢
  rw [← hq0] at k2 ⊢
  have hq : w.heap.size ≤ q := by omega
  have hq3 : w.heap.size ≤ q3 := by omega
  have hqq : q ≠ q3 := by omega
  have hsz1 : ((w.alloc (.cells (hopC noHop) 51)).alloc (.cells #[.int .i64 0] 28)).heap.size = w.heap.size + 2 := by simp
  have hql : q < w.heap.size + 2 ∧ q3 < w.heap.size + 2 := by omega
  clear hq0 hq30
  generalize (w.alloc (.cells (hopC noHop) 51)).alloc (.cells #[.int .i64 0] 28) = w1 at *
  rw [← hsz1] at hql
  have HQL := Lib.hid hql
  clear hql hsz1
  go_upto_region 2 with fail
  clear hmf
  have hcp : ∀ W, Calls Tryz.prog 66 #[.string ⟨s.toArray⟩, .string ⟨#[116, 97, 108, 108, 121]⟩] W fun e w' => e = .returned (.tuple #[.string ⟨(Lib.trimPrefix s markL).toArray⟩, .bool (Lib.hasPrefix s markL)]) ∧ w' = W := fun W => Tryz.strings_CutPrefix ⟨s.toArray⟩ ⟨#[116, 97, 108, 108, 121]⟩ W
  have htr : Lib.trimPrefix s markL = s.drop 5 := by unfold Lib.trimPrefix; rw [if_pos hpf]; rfl
  have hsz : (⟨s.toArray⟩ : ByteArray).size = s.length := rfl
  rw [hpf, htr] at hcp
  have hd : decide ((s.length : Int) ≤ 300) = true := decide_eq_true (by omega)
  have hd' : decide (s.length ≤ 300) = true := decide_eq_true hl
  have hbo := fun W => bytesOf_any (s.drop 5) W (by rw [List.length_drop]; omega)
  have hul : (unhex (s.drop 5)).length ≤ 300 := by rw [unhex_len, List.length_drop]; omega
  clear htr hpf
  obtain ⟨r, hr⟩ : ∃ r, s.drop 5 = r := ⟨_, rfl⟩
  rw [hr] at hcp hbo hul hox h00 HΦ
  clear hr
  go_upto_region 4 with (first
    | (go_at_call 66; refine (hcp _).mono ?_; clear hcp; rintro e w7 ⟨rfl, h7⟩; obtain rfl := h7.symm)
    | (go_at_call 32; refine (rmust_ok _ _).mono ?_; rintro e w7 ⟨h7, rfl⟩; obtain rfl := h7.symm)
    | fail)
  clear hd hd' hsz
  have hop2 : ∀ A c W, Rd W A (unhex r) → (unhex r).length ≤ c → Calls Tryz.prog 67 #[.slice A (unhex r).length c] W fun e w' => ∃ v, e = .returned (.tuple #[v, .int .i64 0]) ∧ Own 5 w' W.heap.size v (openB (unhex r)) ∧ Below W.heap.size W w' := fun A c W h hc => by
    have h1 := open_any A _ c (unhex r) W rfl (by omega) hc h
    unfold OpenPost at h1
    rw [h00] at h1
    exact h1
  have HBO := Lib.hid hbo
  have HOP := Lib.hid hop2
  have K2 := Lib.hid k2
  have K3 := Lib.hid k3
  have HB := Lib.hid hb
  have hc3 : ∀ W, Below w1.heap.size w1 W → W.cell? ⟨q3, 0, none⟩ = some (.int .i64 0) ∧ W.frozen? ⟨q3, 0, none⟩ = false := fun W h => ⟨((k3.belowAll h).cell 0).trans rfl, (k3.belowAll h).frozen 0⟩
  have HC3 := Lib.hid hc3
  have HUL := Lib.hid hul
  clear hbo hop2 k2 k3 hb hc3 hul hl
  go_upto_region 5 with (first
    | (go_at_call 68; refine (HBO.out _).mono ?_; rintro e w8 ⟨hb8, ⟨_, v8, rfl, ho8⟩ | ⟨hn8, _⟩⟩; rotate_left; exact absurd (hn8.symm.trans hox) (by decide); obtain ⟨A8, c8, rfl, hcl8, _, hr8⟩ := ho8.slice)
    | (go_at_call 67; refine (HOP.out A8 c8 _ hr8 hcl8).mono ?_; rintro e w9 ⟨v9, rfl, ho9, hb9⟩; obtain ⟨A9, c9, rfl, -, -, hr9⟩ := ho9.slice; obtain ⟨cc, ff⟩ := HC3.out w9 (hb8.trans (hb9.mono hb8.size)))
    | fail)
  have hb19 := hb8.trans (hb9.mono hb8.size)
  have kF2 := ((K2.out.belowAll hb19).far (p := ⟨q3, 0, none⟩) hqq (.int .i64 0))
  have kF3 := (K3.out.belowAll hb19).set 0 (.int .i64 0)
  have hbF := (HB.out.trans (hb19.mono HB.out.size)).setCell (p := ⟨q3, 0, none⟩) hq3 (.int .i64 0)
  have c3 : (w9.setCell ⟨q3, 0, none⟩ (.int .i64 0)).cell? ⟨q3, 0, none⟩ = some (.int .i64 0) := (kF3.cell 0).trans rfl
  have hrF : Rd (w9.setCell ⟨q3, 0, none⟩ (.int .i64 0)) A9 (openB (unhex r)) := hr9.same (Same.set w9 ⟨q3, 0, none⟩ _) (fun b o e hne => by
    obtain ⟨g9, c9', e9, hb9', -⟩ := ho9.form hne
    injection e9 with e1 e2 e3
    rw [e] at e1
    injection e1 with e1
    injection e1 with e1
    have := HQL.out
    have := hb8.size
    show b ≠ q3
    omega)
  have hsF : w1.heap.size ≤ (w9.setCell ⟨q3, 0, none⟩ (.int .i64 0)).heap.size := by
    have := hb19.size
    simpa [World.setCell] using this
  generalize w9.setCell ⟨q3, 0, none⟩ (.int .i64 0) = wF at *
  clear cc ff ho9 hr8 ho8 hb8 hb9 hb19 K2 K3 HB HBO HOP HC3 hr9
  have hbl : (openB (unhex r)).length ≤ 300 := by
    have := HUL.out
    unfold openB
    split
    · rw [List.length_take]; omega
    · simp
  obtain ⟨b, hbb⟩ : ∃ b, openB (unhex r) = b := ⟨_, rfl⟩
  rw [hbb] at hrF hbl HΦ ⊢
  obtain ⟨nb, hnb⟩ : ∃ n, b.length = n := ⟨_, rfl⟩
  have hrd := atRead_any A9 nb c9 b wF hnb (by omega) hrF
  have hql := HQL.out
  have HF2 := Lib.hid kF2
  have HF3 := Lib.hid kF3
  have HFB := Lib.hid hbF
  clear kF2 hbF hrF kF3
  rw [hnb]
  go_upto_region 7 with (first
    | (go_at_call 32; refine (rmust_ok _ _).mono ?_; rintro e w7 ⟨h7, rfl⟩; obtain rfl := h7.symm)
    | (go_at_call 35; refine hrd.mono ?_; clear hrd; rintro e w2 ⟨g, A0, rfl, hat, hAb, hgw, hbg⟩; obtain ⟨w3, hst, k7, hL3⟩ := newReader w2 g)
    | (guard_target =~ wpList _ _ _ (_ :: _) _ _; refine wpList_build rfl 83 _ rfl #[(0, .pointer (some ⟨g, 0, none⟩))] (by simp only [List.map_toArray, List.map_cons, List.map_nil]; rfl) (buildReader _ _) ?_)
    | (with_reducible refine wpList_alloc rfl 83 rfl (allocReader _) ?_)
    | (guard_target =~ wpList _ _ _ (_ :: _) _ _; refine wpList_store rfl 83 (.tmp 7) (.tmp 32) rfl (.pointer (some ⟨w2.heap.size, 0, none⟩)) (.agg #[.pointer (some ⟨g, 0, none⟩)]) rfl rfl hst ?_)
    | fail)
  obtain ⟨q7, hq7⟩ : ∃ q, q = w2.heap.size := ⟨_, rfl⟩
  rw [← hq7] at k7 ⊢
  rename_i K hK
  have hgq7 : g < q7 := by have := hat.lt; omega
  have hwF := HFB.out.size
  have hgq : q ≠ g := by omega
  have hgq3 : q3 ≠ g := by omega
  have hg7 : q7 ≠ g := by omega
  have hgw2 : w.heap.size ≤ g := by omega
  have hPR : PRd w g q q3 q7 A0 b 0 w3 := ⟨(HFB.out.trans (hbg.mono HFB.out.size)).trans (hL3.below.mono (Nat.le_trans HFB.out.size hbg.size)), hat.later hL3, k7, (HF2.out.belowAll hbg).later hL3, (HF3.out.belowAll hbg).later hL3, fun j hj => absurd hj (by omega)⟩
  have hq73 : q3 ≠ q7 ∧ q ≠ q7 := by omega
  have hAq : ∀ b' o, A0 = some ⟨b', o, none⟩ → b ≠ [] → b' ≠ q ∧ b' ≠ q3 := fun b' o e hne => by have := hAb b' o e hne; omega
  have HAQ := Lib.hid hAq
  have HK := Lib.hid hK
  have H7Q := Lib.hid hq7
  clear hq7 hAq hAb hK hst hL3 hat k7 hbg HF2 HF3 HFB c3 HQL HUL hsF
  have hbad : ∀ k, errAt b k ≠ 0 → ∀ w', Below w.heap.size w w' → Φ (.returned (.tuple #[.agg (hopC noHop), .int .i64 351])) w' := fun k hk w' hb => by
    have hno : okRd b = false := by
      unfold okRd
      rw [List.all_eq_false]
      refine ⟨k, ?_, by simpa using hk⟩
      rw [List.mem_range]
      rcases k with _ | _ | _ | _ | k
      all_goals first | omega | exact absurd rfl hk
    have hpb : parsedB b = (noHop, 351) := by unfold parsedB; rw [hno]; rfl
    rw [hpb] at HΦ
    exact HΦ.out _ _ ⟨rfl, hb⟩
  simp only [Act.put, List.setIfInBounds_toArray, List.set_cons_zero, List.set_cons_succ]
  refine (wpIn_wide (n := 0)).1 ?_
  refine wpIn_region_cv wide_wide [.agg #[.pointer (some ⟨g, 0, none⟩)], undef, .agg #[.pointer (some ⟨g, 0, none⟩)], undef, .agg #[.pointer (some ⟨g, 0, none⟩)], undef, .agg #[.pointer (some ⟨g, 0, none⟩)], undef, undef] [1, 3, 5, 7, 8] (fun rs W => PRd w g q q3 q7 A0 b (min rs.length 4) W ∧ rs = (vals b).take rs.length) (fun rs W W' hL h => ⟨h.1.later hL, h.2⟩) ⟨hPR, rfl⟩ (by kernel_rfl) (by kernel_rfl) (by kernel_rfl) (by kernel_rfl) (by kernel_rfl) (by kernel_rfl) rfl (by decide) (by kernel_rfl) ⟨?_, ?_, ?_, ?_, ?_, ?_, ?_, ?_, ?_, trivial⟩ ?_
  · exact cvStep_val (by decide) fun a W rs he hA => stepOk_want rfl (op_load rfl (he.keep (.tmp 7) (by kernel_rfl)) (loadReader hA.1.k7) rfl)
  · refine cvStep_put (k := 0) (by decide) (.inl rfl) fun a W rs hrs he hA => ⟨rfl, ?_⟩
    obtain ⟨hA1, hA2⟩ := hA
    rw [hrs] at hA1 hA2
    have e33 : a.eval (.tmp 33) = .agg #[.pointer (some ⟨g, 0, none⟩)] := he.val 0 33 (by kernel_rfl) rfl (by decide)
    refine op_callFP (vs := #[.agg #[.pointer (some ⟨g, 0, none⟩)], .int .i64 351]) rfl (by simp only [List.map_toArray, List.map_cons, List.map_nil, e33]; rfl) (enters_of Tryz.func36 (by kernel_rfl) rfl) ((rrHash_any g A0 b _ _ 351 W hA1.at_).mono ?_)
    rintro e W' ⟨hs, hat, ⟨h0, rfl⟩ | ⟨h0, rfl⟩⟩
    · refine .inl ⟨_, rfl, _, rfl, ?_⟩
      rw [hA2]
      exact ⟨hA1.step hgw2 hgq hgq3 hg7 hs hat h0, rfl⟩
    · refine .inr ⟨_, rfl, ?_⟩
      exact parse_fail q q3 noHop noHop_wf 0 w W' Φ a he.defers (he.keep (.tmp 2) (by kernel_rfl)) (he.keep (.tmp 3) (by kernel_rfl)) (hA1.k2.same hs ⟨hA1.k2.lt, hgq⟩) (hA1.k3.same hs ⟨hA1.k3.lt, hgq3⟩) (hA1.low hgw2 hs) hq hq3 (hbad 0 h0)
  · exact cvStep_val (by decide) fun a W rs he hA => stepOk_want rfl (op_load rfl (he.keep (.tmp 7) (by kernel_rfl)) (loadReader hA.1.k7) rfl)
  · refine cvStep_put (k := 1) (by decide) (.inr (by kernel_rfl)) fun a W rs hrs he hA => ⟨rfl, ?_⟩
    obtain ⟨hA1, hA2⟩ := hA
    rw [hrs] at hA1 hA2
    have e35 : a.eval (.tmp 35) = .agg #[.pointer (some ⟨g, 0, none⟩)] := he.val 2 35 (by kernel_rfl) rfl (by decide)
    refine op_callFP (vs := #[.agg #[.pointer (some ⟨g, 0, none⟩)], .int .i64 351]) rfl (by simp only [List.map_toArray, List.map_cons, List.map_nil, e35]; rfl) (enters_of Tryz.func36 (by kernel_rfl) rfl) ((rrHash_any g A0 b _ _ 351 W hA1.at_).mono ?_)
    rintro e W' ⟨hs, hat, ⟨h0, rfl⟩ | ⟨h0, rfl⟩⟩
    · refine .inl ⟨_, rfl, _, rfl, ?_⟩
      rw [hA2]
      exact ⟨hA1.step hgw2 hgq hgq3 hg7 hs hat h0, rfl⟩
    · refine .inr ⟨_, rfl, ?_⟩
      exact parse_fail q q3 noHop noHop_wf 0 w W' Φ a he.defers (he.keep (.tmp 2) (by kernel_rfl)) (he.keep (.tmp 3) (by kernel_rfl)) (hA1.k2.same hs ⟨hA1.k2.lt, hgq⟩) (hA1.k3.same hs ⟨hA1.k3.lt, hgq3⟩) (hA1.low hgw2 hs) hq hq3 (hbad 1 h0)
  · exact cvStep_val (by decide) fun a W rs he hA => stepOk_want rfl (op_load rfl (he.keep (.tmp 7) (by kernel_rfl)) (loadReader hA.1.k7) rfl)
  · refine cvStep_put (k := 2) (by decide) (.inr (by kernel_rfl)) fun a W rs hrs he hA => ⟨rfl, ?_⟩
    obtain ⟨hA1, hA2⟩ := hA
    rw [hrs] at hA1 hA2
    have e37 : a.eval (.tmp 37) = .agg #[.pointer (some ⟨g, 0, none⟩)] := he.val 4 37 (by kernel_rfl) rfl (by decide)
    refine op_callFP (vs := #[.agg #[.pointer (some ⟨g, 0, none⟩)], .int .i64 1125899906842624, .int .i64 351]) rfl (by simp only [List.map_toArray, List.map_cons, List.map_nil, e37]; rfl) (enters_of Tryz.func37 (by kernel_rfl) rfl) ((rrNum_any g A0 b _ _ 1125899906842624 351 W hA1.at_).mono ?_)
    rintro e W' ⟨hs, hat, ⟨h0, rfl⟩ | ⟨h0, rfl⟩⟩
    · refine .inl ⟨_, rfl, _, rfl, ?_⟩
      rw [hA2]
      exact ⟨hA1.step hgw2 hgq hgq3 hg7 hs hat h0, rfl⟩
    · refine .inr ⟨_, rfl, ?_⟩
      exact parse_fail q q3 noHop noHop_wf 0 w W' Φ a he.defers (he.keep (.tmp 2) (by kernel_rfl)) (he.keep (.tmp 3) (by kernel_rfl)) (hA1.k2.same hs ⟨hA1.k2.lt, hgq⟩) (hA1.k3.same hs ⟨hA1.k3.lt, hgq3⟩) (hA1.low hgw2 hs) hq hq3 (hbad 2 h0)
  · exact cvStep_val (by decide) fun a W rs he hA => stepOk_want rfl (op_load rfl (he.keep (.tmp 7) (by kernel_rfl)) (loadReader hA.1.k7) rfl)
  · refine cvStep_put (k := 3) (by decide) (.inr (by kernel_rfl)) fun a W rs hrs he hA => ⟨rfl, ?_⟩
    obtain ⟨hA1, hA2⟩ := hA
    rw [hrs] at hA1 hA2
    have e39 : a.eval (.tmp 39) = .agg #[.pointer (some ⟨g, 0, none⟩)] := he.val 6 39 (by kernel_rfl) rfl (by decide)
    refine op_callFP (vs := #[.agg #[.pointer (some ⟨g, 0, none⟩)], .int .i64 1000, .int .i64 351]) rfl (by simp only [List.map_toArray, List.map_cons, List.map_nil, e39]; rfl) (enters_of Tryz.func37 (by kernel_rfl) rfl) ((rrNum_any g A0 b _ _ 1000 351 W hA1.at_).mono ?_)
    rintro e W' ⟨hs, hat, ⟨h0, rfl⟩ | ⟨h0, rfl⟩⟩
    · refine .inl ⟨_, rfl, _, rfl, ?_⟩
      rw [hA2]
      exact ⟨hA1.step hgw2 hgq hgq3 hg7 hs hat h0, rfl⟩
    · refine .inr ⟨_, rfl, ?_⟩
      exact parse_fail q q3 noHop noHop_wf 0 w W' Φ a he.defers (he.keep (.tmp 2) (by kernel_rfl)) (he.keep (.tmp 3) (by kernel_rfl)) (hA1.k2.same hs ⟨hA1.k2.lt, hgq⟩) (hA1.k3.same hs ⟨hA1.k3.lt, hgq3⟩) (hA1.low hgw2 hs) hq hq3 (hbad 3 h0)
  · refine cvStep_put (k := 4) (by decide) (.inr (by kernel_rfl)) fun a W rs hrs he hA => ⟨rfl, ?_⟩
    obtain ⟨hA1, hA2⟩ := hA
    rw [hrs] at hA1 hA2
    have hok : okRd b = true := List.all_eq_true.2 fun j hj => decide_eq_true (hA1.err j (List.mem_range.1 hj))
    have hwf := invOf_wf hok
    have e0 : a.eval (.tmp 34) = .agg (hC (invOf b).key) := (he.res 0 34 (by decide) (by kernel_rfl) rfl).trans (by rw [hA2]; rfl)
    have e1 : a.eval (.tmp 36) = .agg (hC (invOf b).next) := (he.res 1 36 (by decide) (by kernel_rfl) rfl).trans (by rw [hA2]; rfl)
    have e2 : a.eval (.tmp 38) = .int .i64 (invOf b).amt := (he.res 2 38 (by decide) (by kernel_rfl) rfl).trans (by rw [hA2]; rfl)
    have e3 : a.eval (.tmp 40) = .int .i64 (invOf b).exp := (he.res 3 40 (by decide) (by kernel_rfl) rfl).trans (by rw [hA2]; rfl)
    refine Oper.wp_mono ?_ (op_build (R := fun v W' => v = .agg (hopC (invOf b))) (vs := #[(0, .agg (hC (invOf b).key)), (1, .agg (hC (invOf b).next)), (2, .int .i64 (invOf b).amt), (3, .int .i64 (invOf b).exp)]) rfl (by simp only [List.map_toArray, List.map_cons, List.map_nil, e0, e1, e2, e3]) (buildInvF hwf W) rfl)
    rintro a' W' ⟨v, h1, h2, rfl⟩
    refine ⟨_, h1, ?_⟩
    rw [hA2]
    exact ⟨hA1.later h2, rfl⟩
  · intro xs W hA hx hk hget
    obtain ⟨hA1, hA2⟩ := hA
    have hok : okRd b = true := List.all_eq_true.2 fun j hj => decide_eq_true (hA1.err j (List.mem_range.1 hj))
    have hwf := invOf_wf hok
    have v41 : xs 8 = .agg (hopC (invOf b)) := by
      have := congrArg (fun l => l.getD 4 undef) hA2
      exact this
    have hst := storeInv noHop_wf hwf hA1.k2
    obtain ⟨W1, hst1, k2W, hg2⟩ := hst
    refine last_store rfl rfl (hk (.tmp 2) (by kernel_rfl)) ((hget 8 41 (by decide) rfl).trans v41) hst1 ?_
    simp only [initL, lastL, putL, Nat.reduceAdd, Act.put, List.setIfInBounds_toArray, List.set_cons_succ, List.set_cons_zero]
    clear hx hk hget hA2 v41
    refine HK.out _ _ ?_
    have hat4 : RAt W1 g A0 b (stAt b 4).1 (stAt b 4).2 := hA1.at_.grown hg2 (fun e => hgq e.symm) (fun b' o e hne => (HAQ.out b' o e hne).1)
    have k7W := hA1.k7.grown hg2 (fun e => hq73.2 (Option.some.inj e).symm)
    have k3W := hA1.k3.grown hg2 (fun e => hqq (Option.some.inj e).symm)
    have hbW := hA1.below.grown hg2 hA1.below.size (fun j e => by cases e; exact hq)
    have c7 : W1.cell? ⟨q7, 0, none⟩ = some (.pointer (some ⟨g, 0, none⟩)) := (k7W.cell 0).trans rfl
    have hend := atEnd_any hat4
    obtain ⟨en, hen⟩ : ∃ x, (Wr.endR (stAt b 4).1 (stAt b 4).2).2 = x := ⟨_, rfl⟩
    have henB : endB b = en := hen
    have hend2 : Calls Tryz.prog 39 #[.pointer (some ⟨g, 0, none⟩)] W1 fun e w' => e = .returned (.int .i64 en) ∧ Same (fun k => k < W1.heap.size ∧ k ≠ g) W1 w' := hend.mono fun e w' ⟨h1, h2, _⟩ => ⟨by rw [h1, hen], h2⟩
    have hpb : parsedB b = if decide (en = 0) && okInv (invOf b) then (invOf b, 0) else (noHop, 351) := by unfold parsedB; rw [hok, henB]; rfl
    have HP := Lib.hid hpb
    have HOK := Lib.hid hok
    have K3W := Lib.hid k3W
    have K2W := Lib.hid k2W
    have HBW := Lib.hid hbW
    clear hend hen henB hpb hok k3W k2W hbW hat4 hA1 hst1 hg2 hPR hbad
    have hkeep : ∀ W2, Same (fun k => k < W1.heap.size ∧ k ≠ g) W1 W2 → Row W2 q 51 (hopC (invOf b)) ∧ Row W2 q3 28 #[.int .i64 0] ∧ Below w.heap.size w W2 := fun W2 hs => ⟨K2W.out.same hs ⟨K2W.out.lt, hgq⟩, K3W.out.same hs ⟨K3W.out.lt, hgq3⟩, (Same.of_below HBW.out |>.trans (hs.mono fun k hk => ⟨Nat.lt_of_lt_of_le hk HBW.out.size, by omega⟩)).below⟩
    have HKP := Lib.hid hkeep
    clear hkeep
    by_cases h0 : en = 0
    case neg =>
      have h0' : (en == 0) = false := by simpa using h0
      have HN := Lib.hid h0
      clear h0
      go_wp2_with (first
        | (go_at_call 39; refine hend2.mono ?_; clear hend2; rintro e w4 ⟨rfl, hs4⟩; obtain ⟨j2, j3, jb⟩ := HKP.out w4 hs4)
        | (go_at_call 32; refine (rmust_no _ _).mono ?_; rintro e w7 ⟨h7, rfl⟩; obtain rfl := h7.symm)
        | fail)
      refine parse_fail q q3 (invOf b) hwf 0 w _ Φ _ rfl rfl rfl j2 j3 jb hq hq3 (fun w' hb => HΦ.out _ _ ⟨?_, hb⟩)
      rw [HP.out, decide_eq_false HN.out]
      rfl
    subst h0
    have hinv := fun W => rinvoice_any (invOf b) hwf W
    obtain ⟨oi, hoi⟩ : ∃ x, okInv (invOf b) = x := ⟨_, rfl⟩
    rw [hoi] at hinv
    have HP2 : Hid (parsedB b = if oi then (invOf b, 0) else (noHop, 351)) := Lib.hid (by rw [HP.out, hoi]; rfl)
    clear hoi HP
    have hfl : ∀ W2, Row W2 q 51 (hopC (invOf b)) → (Instr.loadAt 51 (.pointer (some ⟨q, 0, none⟩))).run Tryz.prog W2 = .ok (.agg (hopC (invOf b))) W2 := fun W2 h => loadInv hwf h
    cases oi with
    | false =>
      go_wp2_with (first
        | (go_at_call 39; refine hend2.mono ?_; clear hend2; rintro e w4 ⟨rfl, hs4⟩; obtain ⟨j2, j3, jb⟩ := HKP.out w4 hs4; have hld := hfl w4 j2; clear hfl)
        | (guard_target =~ wpList _ _ _ (_ :: _) _ _; refine wpList_loadG rfl 51 (.tmp 2) rfl (.pointer (some ⟨q, 0, none⟩)) rfl hld ?_)
        | (go_at_call 53; refine (hinv _).mono ?_; clear hinv; rintro e w5 ⟨rfl, hL5⟩)
        | (go_at_call 32; refine (rmust_no _ _).mono ?_; rintro e w7 ⟨h7, rfl⟩; obtain rfl := h7.symm)
        | fail)
      refine parse_fail q q3 (invOf b) hwf 0 w _ Φ _ rfl rfl rfl (j2.later hL5) (j3.later hL5) (jb.trans (hL5.below.mono jb.size)) hq hq3 (fun w' hb => HΦ.out _ _ ⟨?_, hb⟩)
      rw [HP2.out]
      rfl
    | true =>
      go_upto_region 9 with (first
        | (go_at_call 39; refine hend2.mono ?_; clear hend2; rintro e w4 ⟨rfl, hs4⟩; obtain ⟨j2, j3, jb⟩ := HKP.out w4 hs4; have hld := hfl w4 j2)
        | (guard_target =~ wpList _ _ _ (_ :: _) _ _; refine wpList_loadG rfl 51 (.tmp 2) rfl (.pointer (some ⟨q, 0, none⟩)) rfl hld ?_)
        | (go_at_call 53; refine (hinv _).mono ?_; clear hinv; rintro e w5 ⟨rfl, hL5⟩)
        | (go_at_call 32; refine (rmust_ok _ _).mono ?_; rintro e w7 ⟨h7, rfl⟩; obtain rfl := h7.symm)
        | fail)
      have k2' := j2.later hL5
      have k3' := j3.later hL5
      have jb' := jb.trans (hL5.below.mono jb.size)
      obtain ⟨w6, hst6, k26, hg6⟩ := storeInv hwf hwf k2'
      have hld6 := hfl _ k2'
      have k36 := k3'.grown hg6 (fun e => hqq (Option.some.inj e).symm)
      have c36 : w6.cell? ⟨q3, 0, none⟩ = some (.int .i64 0) := (k36.cell 0).trans rfl
      have f36 : w6.frozen? ⟨q3, 0, none⟩ = false := k36.frozen 0
      have kQ := k26.far (p := ⟨q3, 0, none⟩) hqq (.int .i64 0)
      have cE : (w6.setCell ⟨q3, 0, none⟩ (.int .i64 0)).cell? ⟨q3, 0, none⟩ = some (.int .i64 0) := ((k36.set 0 (.int .i64 0)).cell 0).trans rfl
      have jb7 := (jb'.grown hg6 jb'.size (fun j e => by cases e; exact hq)).setCell (p := ⟨q3, 0, none⟩) hq3 (.int .i64 0)
      clear hld k2' k3' jb' hg6 k26 k36 j2 j3 jb hL5
      go_wp2_with (first
        | (guard_target =~ wpList _ _ _ (_ :: _) _ _; refine wpList_load rfl 51 (.tmp 2) rfl (.pointer (some ⟨q, 0, none⟩)) rfl hld6 ?_)
        | (guard_target =~ wpList _ _ _ (_ :: _) _ _; refine wpList_store rfl 51 (.tmp 2) (.tmp 51) rfl (.pointer (some ⟨q, 0, none⟩)) (.agg (hopC (invOf b))) rfl rfl hst6 ?_)
        | fail)
      refine leaves_cons (f := 30) (args := #[.pointer (some ⟨q3, 0, none⟩), .func (.func 65) #[] #[.pointer (some ⟨q, 0, none⟩)]]) (by simp) (by simp [go_sem]) ?_
      refine (rcaught_idle _ _ _).mono ?_
      rintro e u' w'' ⟨rfl, rfl, rfl⟩
      show ∃ v, _ ∧ _
      exact ⟨_, results_cc rfl _ _ q q3 51 (hopC (invOf b)) _ (.int .i64 0) rfl rfl kQ Tryz.underlying51 rfl (by rw [hopC_size hwf]; exact infoInv) (loadErr cE), HΦ.out _ _ ⟨by rw [HP2.out]; rfl, jb7⟩⟩
def Rt.okText (s : List UInt8) : Bool := Lib.hasPrefix s markL && (decide (s.length ≤ 300) && (okHex (s.drop 5) && decide (openE (unhex (s.drop 5)) = 0)))
def Rt.parse (s : List UInt8) : Hop × Int := if okText s then parsedB (openB (unhex (s.drop 5))) else (noHop, 351)
theorem parse_any2 (s : List UInt8) (w : World) :
    Calls Tryz.prog 18 #[.string ⟨s.toArray⟩] w fun e w' => e = .returned (.tuple #[.agg (hopC (Rt.parse s).1), .int .i64 (Rt.parse s).2]) ∧ Below w.heap.size w w' := by
  by_cases h : okText s = true
  · have hp : Rt.parse s = parsedB (openB (unhex (s.drop 5))) := by unfold Rt.parse; rw [if_pos h]
    rw [hp]
    unfold okText at h
    simp only [Bool.and_eq_true, decide_eq_true_eq] at h
    exact parse_good s w h.1 h.2.1 h.2.2.1 h.2.2.2
  · have hp : Rt.parse s = (noHop, 351) := by unfold Rt.parse; rw [if_neg h]
    rw [hp]
    refine parse_bad s w (fun h1 h2 h3 h4 => h ?_)
    unfold okText
    rw [h1, h3, h4, decide_eq_true h2]
    rfl
end Go.Proofs.YtloiaaolnfimgaaGreat
