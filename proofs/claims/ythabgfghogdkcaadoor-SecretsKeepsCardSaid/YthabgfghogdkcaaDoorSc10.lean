/- Walks, secrets: Read. -/
import Derived.Test.YthabgfghogdkcaaDoorSc9c
set_option linter.unusedVariables false
set_option linter.unusedSimpArgs false
namespace Go.Proofs.YthabgfghogdkcaaDoor
open Go.RowKit
/-- What Read tells. -/
def ReadPost (b : List UInt8) (w : World) (e : Ending) (w' : World) : Prop := Below w.heap.size w w' ∧
  ((Sec.readOk b = false ∧ e = .returned (.tuple #[.pointer none, .int .i64 162])) ∨
   (Sec.readOk b = true ∧ ∃ g, w.heap.size ≤ g ∧ e = .returned (.tuple #[.pointer (some ⟨g, 0, none⟩), .int .i64 0]) ∧ IsKeep w' g (Sec.readN b : Nat) (Sec.ixK (Sec.readN b) (Sec.width (Sec.readN b))) (Sec.scK (Sec.readL b) (Sec.width (Sec.readN b)))))
theorem readFn_any (q : Nat) (v : Value) (w : World) (hr : Row w q 31 #[v]) :
    Calls Tryd.prog 36 #[.pointer (some ⟨q, 0, none⟩)] w fun e w' => e = .returned (.tuple #[]) ∧ Row w' q 31 #[.pointer none] ∧ w.grownBy w' (some q) := by
  have hc : w.cell? ⟨q, 0, none⟩ = some v := (hr.cell 0).trans rfl
  have hf : w.frozen? ⟨q, 0, none⟩ = false := hr.frozen 0
  have h1 := hr.set 0 (.pointer none)
  have h2 := grown_set w q 0 (.pointer none)
  have H1 := Lib.hid h1
  have H2 := Lib.hid h2
  clear h1 h2
  go_enter Tryd.func36, Tryd.ntmps36
  go_wp2
  go_end0
  exact ⟨rfl, H1.out, H2.out⟩
theorem read_caught (q : Nat) (v : Value) (x : Int) (w W : World) (k2 : Row W q 31 #[v]) (k3 : Row W (q + 1) 24 #[.int .i64 x]) (hbW : Below w.heap.size w W) (hq : w.heap.size ≤ q) :
    CallsD Tryd.prog 28 #[.pointer (some ⟨q + 1, 0, none⟩), .func (.func 36) #[] #[.pointer (some ⟨q, 0, none⟩)]] (.panicking (gaveUp 162)) W fun e u' w' =>
      e = .returned (.tuple #[]) ∧ u' = .panicking ({ v := .iface 24 (.int .i64 162), recovered := true } :: []) ∧ w'.cell? ⟨q, 0, none⟩ = some (.pointer none) ∧ w'.cell? ⟨q + 1, 0, none⟩ = some (.int .i64 162) ∧ Below w.heap.size w w' := by
  refine (caught_panicking (q + 1) 36 #[.pointer (some ⟨q, 0, none⟩)] 162 x [] W k3 (fun X X' => Row X' q 31 #[.pointer none] ∧ X.grownBy X' (some q)) (enters_of Tryd.func36 (by kernel_rfl) rfl _) (fun X hk hg => (readFn_any q v X (k2.grown hg (fun e => by injection e with e; omega))).mono fun e X' ⟨h1, h2, h3⟩ => ⟨h1, h2, h3⟩)).mono ?_
  rintro e u' w' ⟨rfl, rfl, X, hk, hg, hp, hg2⟩
  have hb1 : Below w.heap.size w X := hbW.grown hg hbW.size (fun j e => by cases e; omega)
  exact ⟨rfl, rfl, (hp.cell 0).trans rfl, ((hk.grown hg2 (fun e => by injection e with e; omega)).cell 0).trans rfl, hb1.grown hg2 hb1.size (fun j e => by cases e; exact hq)⟩
set_option maxHeartbeats 4000000 in
set_option maxRecDepth 100000 in
theorem sread_any (A : Option Addr) (n ca : Nat) (b : List UInt8) (w : World) (hn : b.length = n) (hbn : n ≤ 140737488355328) (hr : Rd w A b) :
    Calls Tryd.prog 18 #[.slice A n ca] w (ReadPost b w) := by
  refine Calls.post fun Φ HΦ => ?_
  have k2 := (Row.new w 31 #[.pointer none]).alloc (.cells #[.int .i64 0] 24)
  have k3 := Row.new (w.alloc (.cells #[.pointer none] 31)) 24 #[.int .i64 0]
  have hb := below_new2 w (.cells #[.pointer none] 31) (.cells #[.int .i64 0] 24)
  rw [World.size_alloc] at k3
  have hmf : ∀ (fn : Fn) (first cap : Array Value) (w : World), (Instr.makeFunc fn first cap).run Tryd.prog w = .ok (.func fn first cap) w := fun _ _ _ _ => rfl
  have HN := Lib.hid hn
  have HR := Lib.hid hr
  clear hn hr
  go_enter_defers Tryd.func18, Tryd.ntmps18
  go_upto_region 1 with fail
  obtain ⟨q, hq⟩ : ∃ q, q = w.heap.size := ⟨_, rfl⟩
  try simp only [World.size_alloc]
  rw [← hq] at k2 k3 ⊢
  have HQ := Lib.hid hq
  clear hq
  generalize (w.alloc (.cells #[.pointer none] 31)).alloc (.cells #[.int .i64 0] 24) = w1 at *
  go_upto_region 2 with fail
  clear hmf
  have hrd := read_any A n ca b w1 HN.out hbn (HR.out.later hb)
  go_upto_region 3 with (first
    | (go_at_call 37; refine hrd.mono ?_; clear hrd; rintro e w2 ⟨g4, rfl, hr4, hg4, hb4⟩)
    | fail)
  have hq3 := k3.lt
  have k2 := k2.belowAll hb4
  have k3 := k3.belowAll hb4
  have hb2 := hb.trans (hb4.mono hb.size)
  have hnr := rNumber_any g4 b false 2147483648 w2 hr4
  have hro : Sec.readOk b = (decide ((Wr.numR b false 2147483648).2.2 = 0) && decide ((Sec.readL b).length = 32 * Sec.width (Sec.readN b)) && Sec.fitsTo (Sec.readN b) (Sec.readL b) 32) := rfl
  have hrl : (Wr.numR b false 2147483648).1.1 = Sec.readL b := rfl
  have HRO := Lib.hid hro
  rw [hrl] at hnr
  clear hb4 hb hro hrl
  rcases Sec.numR_cases b with ⟨h0, hbad, hnum, hle⟩ | h140
  rotate_left
  · rw [h140] at hnr HRO
    have hno : Sec.readOk b = false := by rw [HRO.out]; rfl
    have HNO := Lib.hid hno
    generalize (Wr.numR b false 2147483648).2.1 = z at *
    have HNR := Lib.hid hnr
    clear hno h140 hnr
    have c3 : ∀ W, Same (fun k => k < w2.heap.size ∧ k ≠ g4) w2 W → W.cell? ⟨q + 1, 0, none⟩ = some (.int .i64 0) ∧ W.frozen? ⟨q + 1, 0, none⟩ = false := fun W hs => by
      have := k3.same hs ⟨k3.lt, by omega⟩
      exact ⟨(this.cell 0).trans rfl, this.frozen 0⟩
    have C3 := Lib.hid c3
    clear c3
    go_wp2_with (first
      | (go_at_call 38; refine HNR.out.mono ?_; rintro e w3 ⟨hs3, rfl, _⟩; obtain ⟨cc, ff⟩ := C3.out w3 hs3)
      | (go_at_call 39; refine (smust_no _ _).mono ?_; rintro e w5 ⟨rfl, rfl⟩)
      | fail)
    have k2 := (k2.same hs3 ⟨k2.lt, by omega⟩).far (p := ⟨q + 1, 0, none⟩) (by show q ≠ q + 1; omega) (.int .i64 140)
    have k3 := (k3.same hs3 ⟨k3.lt, by omega⟩).set 0 (.int .i64 140)
    have hwq : w.heap.size ≤ q := by have := HQ.out; omega
    have hbW : Below w.heap.size w (w3.setCell ⟨q + 1, 0, none⟩ (.int .i64 140)) := (below_same hb2 hs3 hb2.size (by omega)).setCell (by show w.heap.size ≤ q + 1; omega) _
    have hno := HNO.out
    refine leaves_cons (f := 28) (args := #[.pointer (some ⟨q + 1, 0, none⟩), .func (.func 36) #[] #[.pointer (some ⟨q, 0, none⟩)]]) (by simp) (by simp [go_sem]) ?_; refine (read_caught q _ _ _ _ k2 k3 hbW (by have := HQ.out; omega)).mono ?_; rintro e u' w'' ⟨rfl, rfl, cP, cE, hbF⟩; show ∃ v, _ ∧ _; exact ⟨.tuple #[.pointer none, .int .i64 162], by simp [results, Tryd.results18, go_sem, cP, cE], HΦ.out _ _ ⟨hbF, .inl ⟨hno, rfl⟩⟩⟩
  · rw [hnum, h0, hbad] at hnr
    rw [h0] at HRO
    obtain ⟨N, hN⟩ : ∃ N, Sec.readN b = N := ⟨_, rfl⟩
    obtain ⟨L, hL⟩ : ∃ L, Sec.readL b = L := ⟨_, rfl⟩
    rw [hN, hL] at HRO
    rw [hN] at hnr hle
    rw [hL] at hnr
    have HNL := Lib.hid (And.intro hN hL)
    have HNR := Lib.hid hnr
    clear hN hL hnum h0 hbad hnr
    have c3 : ∀ W, Same (fun k => k < w2.heap.size ∧ k ≠ g4) w2 W → W.cell? ⟨q + 1, 0, none⟩ = some (.int .i64 0) ∧ W.frozen? ⟨q + 1, 0, none⟩ = false := fun W hs => by
      have := k3.same hs ⟨k3.lt, by omega⟩
      exact ⟨(this.cell 0).trans rfl, this.frozen 0⟩
    have C3 := Lib.hid c3
    clear c3
    go_upto_region 4 with (first
      | (go_at_call 38; refine HNR.out.mono ?_; rintro e w3 ⟨hs3, rfl, hrd3⟩; obtain ⟨cc, ff⟩ := C3.out w3 hs3)
      | fail)
    have hwq : w.heap.size ≤ q := by have := HQ.out; omega
    have k3s := k3.same hs3 ⟨k3.lt, by omega⟩
    have k2 := (k2.same hs3 ⟨k2.lt, by omega⟩).far (p := ⟨q + 1, 0, none⟩) (by show q ≠ q + 1; omega) (.int .i64 0)
    have k3 := (k3.same hs3 ⟨k3.lt, by omega⟩).set 0 (.int .i64 0)
    have hb3 : Below w.heap.size w (w3.setCell ⟨q + 1, 0, none⟩ (.int .i64 0)) := (below_same hb2 hs3 hb2.size (by omega)).setCell (by show w.heap.size ≤ q + 1; omega) _
    obtain ⟨A4, ca4, hrow4, hca4, hcm4, hd4⟩ := hrd3
    have hAl : ∀ b' o', A4 = some ⟨b', o', none⟩ → L ≠ [] → b' < (w3.setCell ⟨q + 1, 0, none⟩ (.int .i64 0)).heap.size := fun b' o' e h => by have := hd4.lt e h; simpa [World.setCell] using this
    have hrow4 := hrow4.far (p := ⟨q + 1, 0, none⟩) (by show g4 ≠ q + 1; omega) (.int .i64 0)
    have hd4 : Rd (w3.setCell ⟨q + 1, 0, none⟩ (.int .i64 0)) A4 L := hd4.grown (grown_set w3 (q + 1) 0 (.int .i64 0)) (fun b' o' e hl h => by
      subst e
      injection h with h
      exact row_ne_bytes k3s (fun i v hi => by rcases i with _ | i <;> simp [byteV] at hi) hl hd4 h)
    clear hs3 cc ff C3 HNR hb2 k3s
    generalize w3.setCell ⟨q + 1, 0, none⟩ (.int .i64 0) = w4 at *
    have c3 : w4.cell? ⟨q + 1, 0, none⟩ = some (.int .i64 0) := (k3.cell 0).trans rfl
    go_upto_region 5 with (first
      | (go_at_call 39; refine (smust_ok _ _).mono ?_; rintro e w5 ⟨rfl, rfl⟩)
      | fail)
    clear c3
    have hg5 : g4 < w5.heap.size := hrow4.lt
    obtain ⟨gk, hgk⟩ : ∃ gk, gk = w5.heap.size := ⟨_, rfl⟩
    have kk := Row.newAt (t := 60) (cs := kC 0 (fun _ => 0) (fun _ => []) true) hgk.symm
    rw [kC_zero 0 N L] at kk
    have k2 := k2.alloc (.cells (kC 0 (Sec.ixK N 0) (Sec.scK L 0) true) 60)
    have k3 := k3.alloc (.cells (kC 0 (Sec.ixK N 0) (Sec.scK L 0) true) 60)
    have hrow4 := hrow4.alloc (.cells (kC 0 (Sec.ixK N 0) (Sec.scK L 0) true) 60)
    have hd4 := hd4.alloc (.cells (kC 0 (Sec.ixK N 0) (Sec.scK L 0) true) 60)
    have hb4 := hb3.alloc hb3.size (.cells (kC 0 (Sec.ixK N 0) (Sec.scK L 0) true) 60)
    have hnew := knew_any w5
    rw [kC_zero 0 N L, ← hgk] at hnew
    have HNEW := Lib.hid hnew
    rw [← hgk] at hAl hg5
    clear hnew hgk hb3
    obtain ⟨w6, hw6⟩ : ∃ w6, w5.alloc (.cells (kC 0 (Sec.ixK N 0) (Sec.scK L 0) true) 60) = w6 := ⟨_, rfl⟩
    rw [hw6] at HNEW kk k2 k3 hrow4 hd4 hb4
    clear hw6
    have c2 : w6.cell? ⟨q, 0, none⟩ = some (.pointer none) := (k2.cell 0).trans rfl
    have f2 : w6.frozen? ⟨q, 0, none⟩ = false := k2.frozen 0
    go_upto_region 6 with (first
      | (go_at_call 11; refine HNEW.out.mono ?_; rintro e w7 ⟨rfl, rfl⟩)
      | fail)
    have k2' := k2
    have k2 := k2.set 0 (.pointer (some ⟨gk, 0, none⟩))
    have mv : ∀ {h' : Nat} {t : TypeId} {cs : Array Value}, Row w7 h' t cs → h' ≠ q → Row (w7.setCell ⟨q, 0, none⟩ (.pointer (some ⟨gk, 0, none⟩))) h' t cs := fun h hne => h.far (p := ⟨q, 0, none⟩) hne _
    have hq4 : q < g4 := by omega
    have k3 := mv k3 (by omega)
    have hrow4 := mv hrow4 (by omega)
    have hd4 : Rd (w7.setCell ⟨q, 0, none⟩ (.pointer (some ⟨gk, 0, none⟩))) A4 L := hd4.grown (grown_set w7 q 0 (.pointer (some ⟨gk, 0, none⟩))) (fun b' o' e hl h => by
      subst e
      injection h with h
      exact row_ne_bytes (k2' : Row w7 q _ _) (fun i v hi => by rcases i with _ | i <;> simp [byteV] at hi) hl hd4 h)
    have kk := mv kk (by omega)
    have hb5 : Below w.heap.size w (w7.setCell ⟨q, 0, none⟩ (.pointer (some ⟨gk, 0, none⟩))) := hb4.setCell (by show w.heap.size ≤ q; omega) _
    clear mv c2 f2 HNEW k2' hb4
    generalize w7.setCell ⟨q, 0, none⟩ (.pointer (some ⟨gk, 0, none⟩)) = w8 at *
    have c2 : w8.cell? ⟨q, 0, none⟩ = some (.pointer (some ⟨gk, 0, none⟩)) := (k2.cell 0).trans rfl
    have cg : w8.cell? ⟨gk, 0, none⟩ = some (.int .i64 0) := (kk.cell 0).trans (kC_n _ _ _ _)
    have fg : w8.frozen? ⟨gk, 0, none⟩ = false := kk.frozen 0
    go_upto_region 7 with fail
    have kk2 := kk.set 0 (.int .i64 (N : Int))
    rw [kC_setn] at kk2
    have hg9 := grown_set w8 gk 0 (.int .i64 (N : Int))
    have k2 := k2.grown hg9 (fun e => by injection e with e; omega)
    have k3 := k3.grown hg9 (fun e => by injection e with e; omega)
    have hrow4 := hrow4.grown hg9 (fun e => by injection e with e; omega)
    have hd4 := hd4.grown hg9 (fun b' o' e hl h => by injection h with h; have := hAl b' o' e hl; omega)
    have hb6 : Below w.heap.size w (w8.setCell ⟨gk, 0, none⟩ (.int .i64 (N : Int))) := hb5.grown hg9 hb5.size (fun j e => by cases e; omega)
    clear c2 cg fg hg9 hb5 kk
    generalize w8.setCell ⟨gk, 0, none⟩ (.int .i64 (N : Int)) = w9 at *
    have hlast := last_any (N : Int) w9
    go_upto_region 8 with (first
      | (go_at_call 40; refine hlast.mono ?_; clear hlast; rintro e wA ⟨rfl, rfl⟩)
      | fail)
    obtain ⟨ql, hql⟩ : ∃ ql, ql = w9.heap.size := ⟨_, rfl⟩
    have hpl : RdPl w q g4 gk ql A4 L := ⟨hwq, by omega, hg5, by have := kk2.lt; omega, hAl⟩
    have hst : RdSt w (w9.alloc (.cells #[.int .i64 (N : Int)] 2)) q g4 gk ql A4 L N 0 0 := ⟨k2.alloc _, k3.alloc _, kk2.alloc _, Row.newAt hql.symm, hd4.alloc _, ⟨A4, ca4, by simpa using hrow4.alloc _, by simpa using hca4, hcm4, fun X hX => by simpa using hX⟩, hb6.alloc hb6.size _⟩
    rw [← hql]
    clear hql k2 k3 kk2 hrow4 hd4 hb6 hAl hca4 hcm4 hg5 hg4 hr4 hq3 hq4
    generalize w9.alloc (.cells #[.int .i64 (N : Int)] 2) = wB at *
    go_wp2
    go_loopw [30] (fun t wr => ∃ k : Nat, k ≤ Sec.width N ∧ t = .int .i64 k ∧ 32 * k ≤ L.length ∧ RdSt w wr q g4 gk ql A4 L N k k) (fun t _ => 32 - (intOf t).toNat)
    case atStart => exact ⟨0, by omega, rfl, by omega, hst⟩
    case round =>
      obtain ⟨k, hk, rfl, hkL, hst⟩ := hrel
      have c2 : wr.cell? ⟨q, 0, none⟩ = some (.pointer (some ⟨gk, 0, none⟩)) := (hst.k2.cell 0).trans rfl
      by_cases hin : k < 32 ∧ Sec.hasB N k = true
      · obtain ⟨hk32, hbt⟩ := hin
        have hkw := Sec.has_width hle hbt
        have hha := has_any gk N k _ _ true wr (by omega) hst.kk
        rw [hbt] at hha
        have HH := Lib.hid hha
        clear hha
        obtain ⟨D, c, hrowD, hcD, hcmD, hD⟩ := hst.rd
        have hlen : (L.drop (32 * k)).length = L.length - 32 * k := List.length_drop
        have hmv := hash_moved g4 D c (L.drop (32 * k)) false wr hrowD hcD hcmD (hD wr hst.hd)
        have hltI : (k : Int) < 32 := by omega
        by_cases h32 : 32 ≤ L.length - 32 * k
        · have hR : Wr.hashR (L.drop (32 * k)) false = (((L.drop (32 * k)).drop 32, false), (L.drop (32 * k)).take 32, 0) := by
            unfold Wr.hashR
            rw [if_neg (by decide), if_pos (by omega)]
          rw [hR] at hmv
          have hdd : (L.drop (32 * k)).drop 32 = L.drop (32 * (k + 1)) := by rw [List.drop_drop]; congr 1
          have htl : ((L.drop (32 * k)).take 32).length = 32 := by rw [List.length_take]; omega
          have hss := Sec.scK_succ L k
          have hxs := Sec.ixK_succ N k
          rw [hdd] at hmv
          generalize (L.drop (32 * k)).take 32 = hh at *
          have HMV := Lib.hid hmv
          have HTL := Lib.hid htl
          have HSS := Lib.hid (And.intro hss hxs)
          have HST := Lib.hid hst
          have HD := Lib.hid hD
          have HW := Lib.hid (And.intro hkw hkL)
          have HL32 := Lib.hid h32
          clear hmv hR hdd hss hxs hlen htl hst hD hrowD hkw hkL h32
          go_upto_region 12 with (first
            | (go_at_call 41; refine HH.out.mono ?_; rintro e w2 ⟨rfl, rfl⟩)
            | fail)
          go_upto_region 14 with (first
            | (go_at_call 42; refine HMV.out.mono ?_; rintro e w3 ⟨hs3, rfl, hm3⟩; obtain ⟨w4, hst4, k8, hg8⟩ := storeH (a := []) (b := hh) (by decide) (Nat.le_of_eq HTL.out) (Row.new w3 23 (hC [])))
            | (with_reducible refine wpList_alloc rfl 23 rfl (allocH _) ?_)
            | (guard_target =~ wpList _ _ _ (_ :: _) _ _; refine wpList_store rfl 23 (.tmp 8) (.tmp 40) rfl (.pointer (some ⟨w3.heap.size, 0, none⟩)) (.agg (hC hh)) rfl rfl hst4 ?_)
            | (go_at_call 39; refine (smust_ok _ _).mono ?_; rintro e w5 ⟨rfl, rfl⟩)
            | fail)
          obtain ⟨hkw, hkL⟩ := HW.out
          have h0 : 0 < N / 2 ^ k := by unfold Sec.hasB at hbt; simpa using hbt
          have hst3 : RdSt w w3 q g4 gk ql A4 L N k (k + 1) := HST.out.read hpl hs3 (by
            obtain ⟨D', c', r1, r2, r3, r4⟩ := hm3
            exact ⟨D', c', r1, r2, r3, fun X hX => r4 X (HD.out X hX)⟩)
          have hb35 : Below w3.heap.size w3 w5 := (below_new w3 (.cells (hC []) 23)).grown hg8 (by simp only [World.size_alloc]; omega) (fun j e => by cases e; exact Nat.le_refl _)
          have hst5 := hst3.later hb35
          obtain ⟨q8, hq8⟩ : ∃ q8, q8 = w3.heap.size := ⟨_, rfl⟩
          rw [← hq8] at k8 ⊢
          clear hst3 hb35 hq8 hs3 hm3 hst4 hg8
          refine (wpIn_wide (n := 0)).1 ?_
          refine wpIn_region_last wide_wide [Pr.eq (.pointer (some ⟨gk, 0, none⟩)), Pr.eq (.int .i64 (k : Int)), Pr.eq (.func (.func 65) #[] #[.pointer (some ⟨ql, 0, none⟩)]), Pr.eq (.int .i64 (k : Int)), Pr.eq (.int .i64 (Sec.ixOf N k : Int)), Pr.eq (.agg (hC hh)), Pr.eq (.agg (ptC (Sec.ixOf N k) hh)), Pr.eq (.pointer (some ⟨gk, 0, none⟩)), Pr.eq (.pointer (some ⟨gk, 1, none⟩)), Pr.eq (.pointer (some ⟨gk, 1 + 33 * k, none⟩))] (by kernel_rfl) (by kernel_rfl) (by kernel_rfl) (by kernel_rfl) (by kernel_rfl) (by kernel_rfl) rfl ⟨?_, ?_, ?_, ?_, ?_, ?_, ?_, ?_, ?_, ?_, trivial⟩ ?_
          · exact fun ac W hL he => stepOk_want rfl (op_load rfl (he.keep (.tmp 2) (by kernel_rfl)) (loadPK (((hst5.k2.later hL).cell 0).trans rfl)) rfl)
          · exact fun ac W hL he => stepOk_want rfl (op_move rfl (he.keep (.tmp 7) (by kernel_rfl)))
          · exact fun ac W hL he => stepOk_want rfl (op_move rfl (he.keep (.tmp 6) (by kernel_rfl)))
          · exact fun ac W hL he => stepOk_want rfl (op_move rfl (he.keep (.tmp 7) (by kernel_rfl)))
          · (intro ac W hL he; have e47 : ac.eval (.tmp 47) = .func (.func 65) #[] #[.pointer (some ⟨ql, 0, none⟩)] := he.get 2 47 (by kernel_rfl) rfl; have e48 : ac.eval (.tmp 48) = .int .i64 (k : Int) := he.get 3 48 (by kernel_rfl) rfl; exact stepOk_want rfl (op_callV (vs := #[.int .i64 (k : Int)]) (all := #[.int .i64 (k : Int), .pointer (some ⟨ql, 0, none⟩)]) rfl e47 (by simp only [List.map_toArray, List.map_cons, List.map_nil, e48]) (enters_of Tryd.func65 (by kernel_rfl) rfl) rfl ((lastFn_any N k ql W hle (by omega) h0 (((hst5.kl.later hL).cell 0).trans rfl)).mono fun e W' ⟨hw', he'⟩ => ⟨_, he', hw' ▸ Later.refl _, rfl⟩)))
          · exact fun ac W hL he => stepOk_want rfl (op_load rfl (he.keep (.tmp 8) (by kernel_rfl)) (loadH HTL.out (k8.later hL)) rfl)
          · (intro ac W hL he; have e49 : ac.eval (.tmp 49) = .int .i64 (Sec.ixOf N k : Int) := he.get 4 49 (by kernel_rfl) rfl; have e50 : ac.eval (.tmp 50) = .agg (hC hh) := he.get 5 50 (by kernel_rfl) rfl; refine stepOk_want rfl (op_build rfl (vs := #[(0, .int .i64 (Sec.ixOf N k : Int)), (1, .agg (hC hh))]) ?_ (buildP (Sec.ixOf N k) hh (Nat.le_of_eq HTL.out) W) rfl); simp only [List.map_toArray, List.map_cons, List.map_nil, e49, e50])
          · exact fun ac W hL he => stepOk_want rfl (op_nil rfl (he.get 0 45 (by kernel_rfl) rfl) rfl)
          · exact fun ac W hL he => stepOk_want rfl (op_fieldAddr rfl (he.get 7 52 (by kernel_rfl) rfl) fieldPlaces rfl)
          · exact fun ac W hL he => stepOk_want rfl (op_idx rfl (he.get 8 53 (by kernel_rfl) rfl) (he.get 1 46 (by kernel_rfl) rfl) (idxKept hk32) rfl)
          · intro xs W hL hx hk' hg
            have e1 := hg 9 54 (by decide) (by kernel_rfl)
            have e2 := hg 6 51 (by decide) (by kernel_rfl)
            have v1 : xs 9 = .pointer (some ⟨gk, 1 + 33 * k, none⟩) := hx 9 (by decide)
            have v2 : xs 6 = .agg (ptC (Sec.ixOf N k) hh) := hx 6 (by decide)
            rw [v1] at e1
            rw [v2] at e2
            have hst6 := hst5.later hL
            obtain ⟨w9, hst9, kk9, hg9⟩ := storePlace hst6.kk hk32 (Sec.ixOf N k) hh (Nat.le_of_eq HTL.out)
            rw [HSS.out.1, HSS.out.2] at kk9
            have hst9' := hst6.put hpl hg9 kk9
            refine last_store rfl rfl e1 e2 hst9 ?_
            clear hx hk' hg e1 e2 v1 v2 hst9 hst6 hst5 kk9 hg9 hL
            simp only [initL, lastL, putL, Nat.reduceAdd, Act.put, List.setIfInBounds_toArray, List.set_cons_succ, List.set_cons_zero]
            go_wp2_with fail
            go_roundw
            case rel => exact ⟨k + 1, by omega, by go_num, by have := HL32.out; omega, hst9'⟩
            case measure => simp [intOf]; omega
        · have hR : Wr.hashR (L.drop (32 * k)) false = ((L.drop (32 * k), true), [], 140) := by
            unfold Wr.hashR
            rw [if_neg (by decide), if_neg (by omega)]
          rw [hR] at hmv
          have hno : Sec.readOk b = false := by
            have e : decide (L.length = 32 * Sec.width N) = false := decide_eq_false (by omega)
            rw [HRO.out, e]
            simp
          have HNO := Lib.hid hno
          have HMV := Lib.hid hmv
          have HST := Lib.hid hst
          clear hmv hR hlen hst hD hrowD hkw hkL h32 hno hcD hcmD
          obtain ⟨a1, a2, a3, a4, a5⟩ := hpl
          go_wp2_with (first
            | (go_at_call 41; refine HH.out.mono ?_; rintro e w2 ⟨rfl, rfl⟩)
            | (go_at_call 42; refine HMV.out.mono ?_; rintro e w3 ⟨hs3, rfl, hm3⟩; obtain ⟨w4, hst4, k8, hg8⟩ := storeH (a := []) (b := []) (by decide) (by decide) (Row.new w3 23 (hC [])))
            | (with_reducible refine wpList_alloc rfl 23 rfl (allocH _) ?_)
            | (guard_target =~ wpList _ _ _ (_ :: _) _ _; refine wpList_store rfl 23 (.tmp 8) (.tmp 40) rfl (.pointer (some ⟨w3.heap.size, 0, none⟩)) (.agg (hC [])) rfl rfl hst4 ?_)
            | (go_at_call 39; refine (smust_no _ _).mono ?_; rintro e w5 ⟨rfl, rfl⟩)
            | fail)
          have hb35 : Below w3.heap.size w3 w5 := (below_new w3 (.cells (hC []) 23)).grown hg8 (by simp only [World.size_alloc]; omega) (fun j e => by cases e; exact Nat.le_refl _)
          have hst := HST.out
          have k2 := (hst.k2.same hs3 ⟨hst.k2.lt, by omega⟩).belowAll hb35
          have k3 := (hst.k3.same hs3 ⟨hst.k3.lt, by omega⟩).belowAll hb35
          have hb3 := below_same hst.b hs3 hst.b.size (by omega)
          have hbW := hb3.trans (hb35.mono hb3.size)
          have hno := HNO.out
          refine leaves_cons (f := 28) (args := #[.pointer (some ⟨q + 1, 0, none⟩), .func (.func 36) #[] #[.pointer (some ⟨q, 0, none⟩)]]) (by simp) (by simp [go_sem]) ?_; refine (read_caught q _ _ _ _ k2 k3 hbW (by have := HQ.out; omega)).mono ?_; rintro e u' w'' ⟨rfl, rfl, cP, cE, hbF⟩; show ∃ v, _ ∧ _; exact ⟨.tuple #[.pointer none, .int .i64 162], by simp [results, Tryd.results18, go_sem, cP, cE], HΦ.out _ _ ⟨hbF, .inl ⟨hno, rfl⟩⟩⟩
      · have hkw : k = Sec.width N := by
          rcases Nat.lt_or_ge k (Sec.width N) with h | h
          · have := Sec.width_has h
            have := Sec.width_le N
            exact absurd ⟨by omega, ‹_›⟩ hin
          · omega
        have hlen : (L.drop (32 * k)).length = L.length - 32 * k := List.length_drop
        have hen := end_any g4 (L.drop (32 * k)) false wr hst.isRd
        have HEN := Lib.hid hen
        have HST := Lib.hid hst
        have HKW := Lib.hid hkw
        have HLEN := Lib.hid hlen
        have HKL := Lib.hid hkL
        clear hen hst hkw hlen hkL hk
        by_cases hk32 : k < 32
        case' pos =>
          have hbf : Sec.hasB N k = false := not_true fun h => hin ⟨hk32, h⟩
          have hha := has_any gk N k _ _ true wr (by omega) HST.out.kk
          rw [hbf] at hha
          have HH := Lib.hid hha
          have hltI : (k : Int) < 32 := by omega
          clear hha hbf hin
          go_upto_region 16 with (first
            | (go_at_call 41; refine HH.out.mono ?_; clear HH; rintro e w2 ⟨rfl, rfl⟩)
            | fail)
          clear hltI
        case' neg =>
          have hltI : ¬ (k : Int) < 32 := by omega
          clear hin
          go_upto_region 16 with fail
          clear hltI
        all_goals
          clear c2
          obtain ⟨a1, a2, a3, a4, a5⟩ := hpl
          by_cases hemp : L.length = 32 * k
          · have hR : Wr.endR (L.drop (32 * k)) false = (([], false), 0) := by
              have h0 : L.drop (32 * k) = [] := List.eq_nil_of_length_eq_zero (by rw [HLEN.out]; omega)
              unfold Wr.endR
              rw [h0]
              rfl
            rw [hR] at HEN
            clear hR
            go_upto_region 17 with (first
              | (go_at_call 43; refine HEN.out.mono ?_; rintro e w3 ⟨hs3, rfl, hm3⟩)
              | (go_at_call 39; refine (smust_ok _ _).mono ?_; rintro e w5 ⟨rfl, rfl⟩)
              | fail)
            have hst := HST.out
            have k2 := hst.k2.same hs3 ⟨hst.k2.lt, by omega⟩
            have k3 := hst.k3.same hs3 ⟨hst.k3.lt, by omega⟩
            have kk := (hst.isKeep (Nat.le_of_eq HKW.out) HKL.out).of_row (hst.kk.same hs3 ⟨hst.kk.lt, by omega⟩)
            have hbW := below_same hst.b hs3 hst.b.size (by omega)
            clear hst hs3 hm3 HST HEN
            rw [HKW.out] at kk
            go_wp2
            go_loopw [60] (fun t wr => ∃ p : Nat, p ≤ 32 ∧ t = .int .i64 p ∧ Sec.fitsTo N L p = true ∧ Row wr q 31 #[.pointer (some ⟨gk, 0, none⟩)] ∧ Row wr (q + 1) 24 #[.int .i64 0] ∧ IsKeep wr gk (N : Int) (Sec.ixK N (Sec.width N)) (Sec.scK L (Sec.width N)) ∧ Below w.heap.size w wr) (fun t _ => 32 - (intOf t).toNat)
            case atStart => exact ⟨0, by omega, rfl, rfl, k2, k3, kk, hbW⟩
            case round =>
              obtain ⟨p, hp, rfl, hft, k2, k3, kk, hbW⟩ := hrel
              have HFT := Lib.hid hft
              clear hft
              have c2 : wr.cell? ⟨q, 0, none⟩ = some (.pointer (some ⟨gk, 0, none⟩)) := (k2.cell 0).trans rfl
              by_cases hp32 : p < 32
              · have hpI : (p : Int) < 32 := by omega
                have hha := has_any gk N p _ _ true wr (by omega) kk.row
                have hft := fits_any gk p N _ _ 162 wr hp32 kk
                have hfk : Sec.fitsK N L p = (!Sec.hasB N p || Sec.fitB (Sec.ixK N (Sec.width N)) (Sec.scK L (Sec.width N)) p p) := rfl
                generalize Sec.ixK N (Sec.width N) = ixx at *
                generalize Sec.scK L (Sec.width N) = scc at *
                have HH := Lib.hid hha
                have HF := Lib.hid hft
                have HFK := Lib.hid hfk
                have HKK := Lib.hid kk
                clear hha hft hfk kk
                cases hbp : Sec.hasB N p with
                | false =>
                  rw [hbp] at HH HFK
                  clear hbp
                  go_wp2_with (first
                    | (go_at_call 41; refine HH.out.mono ?_; rintro e w2 ⟨rfl, rfl⟩)
                    | fail)
                  go_roundw
                  case rel => exact ⟨p + 1, by omega, by go_num, by rw [Sec.fitsTo_succ, HFT.out, HFK.out]; rfl, k2, k3, HKK.out, hbW⟩
                  case measure => simp [intOf]; omega
                | true =>
                  rw [hbp] at HH HFK
                  clear hbp
                  cases hfp : Sec.fitB ixx scc p p with
                  | true =>
                    rw [hfp] at HF HFK
                    rw [if_pos rfl] at HF
                    clear hfp
                    go_wp2_with (first
                      | (go_at_call 41; refine HH.out.mono ?_; rintro e w2 ⟨rfl, rfl⟩)
                      | (go_at_call 31; refine HF.out.mono ?_; rintro e w3 ⟨hb3, rfl⟩)
                      | fail)
                    go_roundw
                    case rel => exact ⟨p + 1, by omega, by go_num, by rw [Sec.fitsTo_succ, HFT.out, HFK.out]; rfl, k2.belowAll hb3, k3.belowAll hb3, HKK.out.of_row (HKK.out.row.belowAll hb3), hbW.trans (hb3.mono hbW.size)⟩
                    case measure => simp [intOf]; omega
                  | false =>
                    rw [hfp] at HF HFK
                    rw [if_neg (by decide)] at HF
                    clear hfp
                    have hno : Sec.readOk b = false := by
                      have e : Sec.fitsTo N L 32 = false := Sec.fitsTo_no hp32 HFK.out
                      rw [HRO.out, e]
                      simp
                    have HNO := Lib.hid hno
                    clear hno
                    go_wp2_with (first
                      | (go_at_call 41; refine HH.out.mono ?_; rintro e w2 ⟨rfl, rfl⟩)
                      | (go_at_call 31; refine HF.out.mono ?_; rintro e w3 ⟨hb3, rfl⟩)
                      | fail)
                    have k2 := k2.belowAll hb3
                    have k3 := k3.belowAll hb3
                    have hbW := hbW.trans (hb3.mono hbW.size)
                    have hno := HNO.out
                    refine leaves_cons (f := 28) (args := #[.pointer (some ⟨q + 1, 0, none⟩), .func (.func 36) #[] #[.pointer (some ⟨q, 0, none⟩)]]) (by simp) (by simp [go_sem]) ?_; refine (read_caught q _ _ _ _ k2 k3 hbW (by have := HQ.out; omega)).mono ?_; rintro e u' w'' ⟨rfl, rfl, cP, cE, hbF⟩; show ∃ v, _ ∧ _; exact ⟨.tuple #[.pointer none, .int .i64 162], by simp [results, Tryd.results18, go_sem, cP, cE], HΦ.out _ _ ⟨hbF, .inl ⟨hno, rfl⟩⟩⟩
              · obtain rfl : p = 32 := by omega
                have c3 : wr.cell? ⟨q + 1, 0, none⟩ = some (.int .i64 0) := (k3.cell 0).trans rfl
                have f2 : wr.frozen? ⟨q, 0, none⟩ = false := k2.frozen 0
                have f3 : wr.frozen? ⟨q + 1, 0, none⟩ = false := k3.frozen 0
                have hyes : Sec.readOk b = true := by
                  have e : decide (L.length = 32 * Sec.width N) = true := decide_eq_true (by have := HKW.out; rw [← this]; exact hemp)
                  rw [HRO.out, e, HFT.out]
                  simp
                have HY := Lib.hid hyes
                have HKK := Lib.hid kk
                clear hyes kk
                go_wp2_with fail
                refine leaves_cons (f := 28) (args := #[.pointer (some ⟨q + 1, 0, none⟩), .func (.func 36) #[] #[.pointer (some ⟨q, 0, none⟩)]]) (by simp) (by simp [go_sem]) ?_
                refine (caught_idle _ _ _).mono ?_
                rintro e u' w'' ⟨rfl, rfl, rfl⟩
                have k2' := (k2.set 0 (.pointer (some ⟨gk, 0, none⟩))).far (p := ⟨q + 1, 0, none⟩) (by show q ≠ q + 1; omega) (.int .i64 0)
                have k3' := (k3.far (p := ⟨q, 0, none⟩) (by show q + 1 ≠ q; omega) (.pointer (some ⟨gk, 0, none⟩))).set 0 (.int .i64 0)
                have h2 := (k2'.cell 0).trans rfl
                have h3 := (k3'.cell 0).trans rfl
                have hkk := HKK.out.of_row ((HKK.out.row.far (p := ⟨q, 0, none⟩) (by show gk ≠ q; omega) (.pointer (some ⟨gk, 0, none⟩))).far (p := ⟨q + 1, 0, none⟩) (by show gk ≠ q + 1; omega) (.int .i64 0))
                have hb9 : Below w.heap.size w ((wr.setCell ⟨q, 0, none⟩ (.pointer (some ⟨gk, 0, none⟩))).setCell ⟨q + 1, 0, none⟩ (.int .i64 0)) := (hbW.setCell (by show w.heap.size ≤ q; omega) _).setCell (by show w.heap.size ≤ q + 1; omega) _
                show ∃ v, _ ∧ _
                exact ⟨.tuple #[.pointer (some ⟨gk, 0, none⟩), .int .i64 0], by simp [results, Tryd.results18, go_sem, h2, h3], HΦ.out _ _ ⟨hb9, .inr ⟨HY.out, gk, by omega, rfl, by rw [HNL.out.1, HNL.out.2]; exact hkk⟩⟩⟩
          · have hR : Wr.endR (L.drop (32 * k)) false = ((L.drop (32 * k), true), 140) := by
              have : (L.drop (32 * k)).isEmpty = false := by
                rw [List.isEmpty_eq_false_iff]
                intro h
                have h2 := HLEN.out
                rw [h] at h2
                have := HKL.out
                simp at h2
                omega
              unfold Wr.endR
              rw [this]
              rfl
            rw [hR] at HEN
            have hno : Sec.readOk b = false := by
              have e : decide (L.length = 32 * Sec.width N) = false := decide_eq_false (by have := HKW.out; omega)
              rw [HRO.out, e]
              simp
            have HNO := Lib.hid hno
            clear hno hR
            go_wp2_with (first
              | (go_at_call 43; refine HEN.out.mono ?_; rintro e w3 ⟨hs3, rfl, hm3⟩)
              | (go_at_call 39; refine (smust_no _ _).mono ?_; rintro e w5 ⟨rfl, rfl⟩)
              | fail)
            have hst := HST.out
            have k2 := hst.k2.same hs3 ⟨hst.k2.lt, by omega⟩
            have k3 := hst.k3.same hs3 ⟨hst.k3.lt, by omega⟩
            have hbW := below_same hst.b hs3 hst.b.size (by omega)
            have hno := HNO.out
            refine leaves_cons (f := 28) (args := #[.pointer (some ⟨q + 1, 0, none⟩), .func (.func 36) #[] #[.pointer (some ⟨q, 0, none⟩)]]) (by simp) (by simp [go_sem]) ?_; refine (read_caught q _ _ _ _ k2 k3 hbW (by have := HQ.out; omega)).mono ?_; rintro e u' w'' ⟨rfl, rfl, cP, cE, hbF⟩; show ∃ v, _ ∧ _; exact ⟨.tuple #[.pointer none, .int .i64 162], by simp [results, Tryd.results18, go_sem, cP, cE], HΦ.out _ _ ⟨hbF, .inl ⟨hno, rfl⟩⟩⟩
end Go.Proofs.YthabgfghogdkcaaDoor
