/- Walks: a state pressed with a block. -/
import Derived.Test.YtfconncnccgenaaShaW6
import Derived.Deep.DeepCutAuto
set_option linter.unusedVariables false
set_option linter.unusedSimpArgs false
namespace Go.Proofs.Ytfconncnccgenaa
open Go.RowKit Go.Shelf
attribute [local go_sem] Oper.semAt_some
set_option maxRecDepth 100000 in
set_option maxHeartbeats 4000000 in
theorem block_any (g o : Nat) (T : TypeId) (cs : Array Value) (x : Sha.St) (A : Option Addr) (c : Nat) (l : List UInt8) (w : World) (hl : l.length = 64) (hcap : 64 ≤ c) (hmx : c ≤ 9223372036854775807) (hr : Rd w A l) (hrow : Row w g T cs) (hx : ∀ i, i < 8 → cs[o + i]? = some (wordV (x.get i))) :
    Calls Try.prog 38 #[.pointer (some ⟨g, o, none⟩), .slice A 64 c] w fun e w' => e = .returned (.tuple #[]) ∧ Row w' g T (setFrom cs o ((Sha.blk x l).list.map wordV)) ∧ w.grownBy w' (some g) := by
  obtain ⟨b, ob, rfl, h0'⟩ := hr.at_ (k := 0) (by omega)
  clear h0'
  have hz := ringTo_zero l
  have HZ := Lib.hid hz
  have HL := Lib.hid hl
  have HX := Lib.hid hx
  clear hz hl hx
  refine (callsIn_wide (n := 6)).1 ?_
  refine callsIn_of_wp_marks Try.func38 rfl trivial ?_ rfl
  simp only [Try.ntmps38, List.size_toArray, List.length_cons, List.length_nil, Nat.reduceAdd, Nat.reduceSub, Array.replicate_succ, Array.replicate_zero, List.push_toArray, List.append_toArray, List.nil_append, List.cons_append]
  refine wpIn_wide.2 ?_
  go_wp2_with (first
    | (with_reducible refine wpList_alloc rfl 84 rfl (alloc16 _) ?_))
  go_loopw [5, 22] (fun _ t wr => ∃ k : Nat, k ≤ 16 ∧ t = .int .i64 k ∧ Row wr w.heap.size 84 (ringTo l k) ∧ Below w.heap.size w wr) (fun _ t _ => 16 - (intOf t).toNat)
  case atStart => exact ⟨0, by omega, rfl, by rw [HZ.out]; exact Row.new w _ _, below_new _ _⟩
  case round =>
    obtain ⟨k, hk, rfl, hrk, hb⟩ := hrel
    by_cases hlt : k < 16
    · have hrk1 := (hr.below hb).cut (k := 4 * k) (n := 4) (by rw [HL.out]; omega)
      have hn4 : ((l.drop (4 * k)).take 4).length = 4 := by rw [List.length_take, List.length_drop, HL.out]; omega
      have hw : Sha.be ((l.drop (4 * k)).take 4) = Sha.wd l k := rfl
      have hset := ringTo_set l k hlt
      have HW := Lib.hid hw
      have HSET := Lib.hid hset
      have H4 := Lib.hid hn4
      have hck : wr.cell? ⟨w.heap.size, k, none⟩ = some ((ringTo l k)[k]'(by simp [ringTo]; exact hlt)) := (hrk.cell k).trans (Array.getElem?_eq_getElem _)
      have hfk := hrk.frozen k
      generalize (ringTo l k)[k]'(by simp [ringTo]; exact hlt) = vk at *
      clear hw hset hn4
      go_wp2_with fail
      refine (number_any _ 4 _ _ wr H4.out (by omega) hrk1).mono ?_
      rintro e w' ⟨rfl, rfl⟩
      rw [HW.out]
      go_wp2_with fail
      go_roundw
      case rel => exact ⟨k + 1, by omega, by go_num, by rw [← HSET.out]; exact hrk.set k _, hb.setCell (p := ⟨w.heap.size, k, none⟩) (Nat.le_refl _) _⟩
      case measure => simp [intOf]; omega
    · obtain rfl : k = 16 := by omega
      rw [ringTo_all] at hrk
      have hLr : Later w wr := hb
      clear hb HZ hcap
      go_upto_region 6 with fail
      go_cut [6] from 6 to 36 (fun v W => ∃ bk, v = .pointer (some ⟨bk, 0, none⟩) ∧ Row W bk 72 kCells ∧ wr.heap.size ≤ bk ∧ Later wr W)
      case first =>
        go_wp2_with fail
        refine (constants_any _).mono ?_
        rintro e w1 ⟨rfl, hb1⟩
        go_wp2_with (first
          | (with_reducible refine wpList_alloc rfl 72 rfl (alloc64 _) ?_)
          | (refine wpList_store rfl 72 (.tmp 6) (.tmp 36) rfl (.pointer (some ⟨w1.heap.size, 0, none⟩)) (.agg kCells) rfl rfl (storeK _) ?_))
        go_meet
        exact ⟨w1.heap.size, rfl, Row.new w1 _ _, hb1.size, ((Later.refl wr).call hb1).alloc _⟩
      case rest =>
        obtain ⟨bk, rfl, hbk, hbk0, hLk⟩ := hcut
        go_upto_region 7 with fail
        obtain ⟨wk, rfl⟩ : ∃ y, y = wc := ⟨_, rfl⟩
        go_cut [7, 8] from 7 to 40 (fun p q W => ∃ b7 b8, p = .pointer (some ⟨b7, 0, none⟩) ∧ q = .pointer (some ⟨b8, 0, none⟩) ∧ IsFn W b7 32 [2, 13, 22] (fun k => wk.heap.size ≤ k) ∧ IsFn W b8 32 [6, 11, 25] (fun k => wk.heap.size ≤ k) ∧ Later wk W)
        case first =>
          go_wp2_with (first | (go_at_call 51; refine (rotations_any _ _ _ _).mono ?_; rintro e w' ⟨rfl, rfl⟩))
          go_meet
          refine ⟨_, _, rfl, rfl, ⟨_, wk.heap.size + 1, wk.heap.size + 1 + 1, wk.heap.size, ?_, ⟨rfl, ?_, ?_, ?_⟩, ?_, ?_, ?_, ?_⟩, ⟨_, wk.heap.size + 1 + 1 + 1 + 1, wk.heap.size + 1 + 1 + 1 + 1 + 1, wk.heap.size + 1 + 1 + 1, ?_, ⟨rfl, ?_, ?_, ?_⟩, ?_, ?_, ?_, ?_⟩, ?_⟩
          all_goals first
            | omega
            | ((repeat (first | (refine Row.newAt ?_; simp only [World.size_alloc]; done) | refine Row.alloc ?_ _)); done)
            | ((repeat (first | exact Later.refl _ | refine Later.alloc ?_ _)); done)
        case rest =>
          obtain ⟨b7, b8, rfl, rfl, h7, h8, hL8⟩ := hcut
          go_upto_region 8 with fail
          obtain ⟨wn, rfl⟩ : ∃ y, y = wc := ⟨_, rfl⟩
          have hL0 : Later w wn := ((hLr.step hLk).step hL8)
          have hrow8 := hrow.later hL0
          go_cut [9] from 9 to 44 (fun p W => ∃ bx, p = .pointer (some ⟨bx, 0, none⟩) ∧ Row W bx 41 (stC x 0) ∧ wn.heap.size ≤ bx ∧ Later wn W)
          case first =>
            go_wp2_with (first
              | (refine wpList_load rfl 41 (.tmp 43) rfl (.pointer (some ⟨g, o, none⟩)) rfl (loadS hrow8 HX.out) ?_)
              | (with_reducible refine wpList_alloc rfl 41 rfl (alloc8 _) ?_)
              | (refine wpList_store rfl 41 (.tmp 9) (.tmp 44) rfl (.pointer (some ⟨wn.heap.size, 0, none⟩)) (.agg (stC x 0)) rfl rfl (storeS x _) ?_))
            go_meet
            exact ⟨_, rfl, Row.new wn _ _, Nat.le_refl _, (Later.refl wn).alloc _⟩
          case rest =>
            obtain ⟨bx, rfl, hbx, hbx0, hLx⟩ := hcut
            obtain ⟨wx, rfl⟩ : ∃ y, y = wc := ⟨_, rfl⟩
            go_wp2_with (first | (go_at_call 52; refine (all_any _ _).mono ?_; rintro e wf ⟨bq, bn, bf, rfl, hall, hba⟩))
            obtain ⟨bm, hbm⟩ : ∃ y, y = w.heap.size := ⟨_, rfl⟩
            rw [← hbm] at hrk hall ⊢
            have hs0 := hrk.lt
            have hs1 := hLk.size
            have hs2 := hL8.size
            have hs3 := hLx.size
            have hs4 := Below.size hba
            have hs5 := hbx.lt
            have hs6 := hbk.lt
            have hs7 := hrow.lt
            have hLf : Later wn wf := hLx.step hba
            have hrm : Row wf bm 84 (ringC (Sha.wd l) 0) := hrk.later ((hLk.step hL8).step hLf)
            have hrk2 : Row wf bk 72 kCells := hbk.later (hL8.step hLf)
            have hrx2 : Row wf bx 41 (stC x 0) := hbx.later hba
            have hrg : Row wf g T cs := hrow.later (hL0.step hLf)
            obtain ⟨S, hSd⟩ : ∃ S : Nat → Prop, S = fun k => k ≠ bm ∧ k ≠ bx ∧ k < wf.heap.size := ⟨_, rfl⟩
            have HBM := Lib.hid hbm
            have hSi : ∀ k, k ≠ bm → k ≠ bx → k < wf.heap.size → S k := fun k a b c => by rw [hSd]; exact ⟨a, b, c⟩
            have hSo : ∀ k, S k → k ≠ bm ∧ k ≠ bx ∧ k < wf.heap.size := fun k h => by rw [hSd] at h; exact h
            have h7s : IsFn wf b7 32 [2, 13, 22] S := (h7.sub fun k a b => hSi k (by omega) (by omega) (by omega)).later hLf
            have h8s : IsFn wf b8 32 [6, 11, 25] S := (h8.sub fun k a b => hSi k (by omega) (by omega) (by omega)).later hLf
            have halS : AllFn wf bm bq bn bf S := ⟨hSi _ (by have := hall.sq; omega) (by have := hall.sq; omega) hall.q.lt, hall.q, hall.n.sub fun k a b => hSi k (by omega) (by omega) b, hall.f.sub fun k a b => hSi k (by omega) (by omega) b⟩
            have hkm : bk ≠ bm := by omega
            have hkx : bk ≠ bx := by omega
            have hgm : g ≠ bm := by omega
            have hgx : g ≠ bx := by omega
            have hmx : bx ≠ bm := by omega
            have hLw : Later w wf := hL0.step hLf
            have HLW := Lib.hid hLw
            have HBML := Lib.hid hrm.lt
            have HS := Lib.hid (And.intro hs5 (And.intro hs6 hs7))
            clear hbm hSd h7 h8 hall hrk hbk hbx hrow hrow8 hL0 hLr hLk hL8 hLx hba hLf hLw hr
            refine name_frame fun T0 hT0 => ?_
            refine (wpIn_wide (n := 6)).1 ?_
            refine wpIn_range_C rfl (by omega) (gf := 60) (lb := #[.pointer (some ⟨bq, 0, none⟩), .pointer (some ⟨bn, 0, none⟩), .pointer (some ⟨bf, 0, none⟩)]) (by rw [hT0]; rfl) trivial (enters_of Try.func60 (by kernel_rfl) rfl)
              (all1_seq (Sha.wd l) bm bq bn bf S (fun h => (hSo _ h).1 rfl) wf 5 (by omega) hrm halS) (fun r e => by rw [e]; exact hrm.lt) (fun h k => h.trans k) (fun W l' o' hl' => ⟨fun k hk => World.putObj_heap_other (by have := (hSo k hk).2.2; omega), World.putObj_heap_other (by have := hrm.lt; omega)⟩) (Below.refl _ _) (fun _ => rfl)
              (fun pre W => Row W bx 41 (stC (Sha.rs x (Sha.wd l) pre.length) pre.length) ∧ Held bm bx wf W) (fun _ _ _ => False)
              ((stab_block (B := wf.heap.size) (b := bx) (C := fun r => r = bm) (fun e => hmx e) (fun pre : List Nat => stC (Sha.rs x (Sha.wd l) pre.length) pre.length) 41).and stab_held) (fun _ => stab_false _ _) ⟨hrx2, Held.refl _ _ _⟩
              (fun _ t a' W => ∃ bt, a' = { tmps := (((T0.setIfInBounds 46 (.int .i64 (t : Int))).setIfInBounds 47 (.int .u32 ((Sha.M (Sha.wd l) t).toNat : Int))).setIfInBounds 10 (.pointer (some ⟨bt, 0, none⟩))).setIfInBounds 11 (.int .u32 ((Sha.M (Sha.wd l) t).toNat : Int)), defers := [] } ∧ Row W bt 3 #[intV t] ∧ wf.heap.size ≤ bt)
              (fun pre t a' s' X Y row hs hg hr => by
                obtain ⟨bt, h1, h2, h3⟩ := hs
                exact ⟨bt, h1, h2.grown hg (fun e => by
                  rcases hr bt e.symm with h | ⟨_, ob', ho', hc'⟩
                  · have := hrm.lt; omega
                  · rw [show X.heap[bt]? = _ from h2] at ho'; cases ho'; cases hc'), h3⟩) ?assign ?body ?done ?stop
            case assign =>
              intro l0 pre t W K hi hok hK
              have HK := Lib.hid hK
              have HI := Lib.hid hi
              have hlw : wf.heap.size ≤ W.heap.size := hi.2.size
              clear hK hi hok
              rw [hT0]
              unfold wordEnc
              gi_wp2
              refine HK.out _ _ (KeepsFrom.of_grownBy (World.grownBy_alloc _ _ none) (fun j e => by cases e)) ⟨fun k hk => Below.heap_alloc W _ k (by have := (hSo k hk).2.2; omega), Below.heap_alloc W _ bm (by have := hrm.lt; omega)⟩ ⟨HI.out.1.alloc _, HI.out.2.grown (World.grownBy_alloc _ _ none) (fun r e => by cases e)⟩ ⟨W.heap.size, ?_, Row.new _ _ _, hlw⟩
              rw [hT0]
              rfl
            case body =>
              rintro l0 pre t a' W hl hlo ⟨hrx, hh⟩ ⟨ht, hlt⟩ ⟨bt, rfl, hbt, hbt0⟩
              rw [← ht] at hrx
              have hk7 : ∀ k, S k → W.heap[k]? = wf.heap[k]? := fun k hk => hh.block k (hSo k hk).2.2 (hSo k hk).1 (hSo k hk).2.1
              have h7w := h7s.keep hk7
              have h8w := h8s.keep hk7
              have hkw : Row W bk 72 kCells := (hk7 bk (hSi bk hkm hkx hrk2.lt)).trans hrk2
              have hct : W.cell? ⟨bt, 0, none⟩ = some (.int .i64 (t : Int)) := (hbt.cell 0).trans rfl
              have hck := (hkw.cell t).trans (kCells_get t hlt)
              obtain ⟨lv, ls, lp, ll, hlr, hrl, hlS⟩ := h7w
              obtain ⟨hv, hs, hp, hll, hhr, hrh, hhS⟩ := h8w
              have hc7f := (hlr.cell 0).trans (rfl : _ = some lv)
              have hc8f := (hhr.cell 0).trans (rfl : _ = some hv)
              rw [hrl.val] at hc7f
              rw [hrh.val] at hc8f
              have hbtx : bt ≠ bx := by have := HS.out.1; omega
              have hnext : Sha.rs x (Sha.wd l) (t + 1) = Sha.rnd (Sha.kc t) (Sha.M (Sha.wd l) t) (Sha.rs x (Sha.wd l) t) := rfl
              obtain ⟨j0, hj0⟩ : ∃ j : Nat, ((0 : Int) + 64 - (t : Int)) % 8 = (j : Int) := ⟨(((0 : Int) + 64 - (t : Int)) % 8).toNat, by omega⟩
              obtain ⟨j1, hj1⟩ : ∃ j : Nat, ((1 : Int) + 64 - (t : Int)) % 8 = (j : Int) := ⟨(((1 : Int) + 64 - (t : Int)) % 8).toNat, by omega⟩
              obtain ⟨j2, hj2⟩ : ∃ j : Nat, ((2 : Int) + 64 - (t : Int)) % 8 = (j : Int) := ⟨(((2 : Int) + 64 - (t : Int)) % 8).toNat, by omega⟩
              obtain ⟨j3, hj3⟩ : ∃ j : Nat, ((3 : Int) + 64 - (t : Int)) % 8 = (j : Int) := ⟨(((3 : Int) + 64 - (t : Int)) % 8).toNat, by omega⟩
              obtain ⟨j4, hj4⟩ : ∃ j : Nat, ((4 : Int) + 64 - (t : Int)) % 8 = (j : Int) := ⟨(((4 : Int) + 64 - (t : Int)) % 8).toNat, by omega⟩
              obtain ⟨j5, hj5⟩ : ∃ j : Nat, ((5 : Int) + 64 - (t : Int)) % 8 = (j : Int) := ⟨(((5 : Int) + 64 - (t : Int)) % 8).toNat, by omega⟩
              obtain ⟨j6, hj6⟩ : ∃ j : Nat, ((6 : Int) + 64 - (t : Int)) % 8 = (j : Int) := ⟨(((6 : Int) + 64 - (t : Int)) % 8).toNat, by omega⟩
              obtain ⟨j7, hj7⟩ : ∃ j : Nat, ((7 : Int) + 64 - (t : Int)) % 8 = (j : Int) := ⟨(((7 : Int) + 64 - (t : Int)) % 8).toNat, by omega⟩
              obtain ⟨s, hs⟩ : ∃ s, Sha.rs x (Sha.wd l) t = s := ⟨_, rfl⟩
              obtain ⟨mw, hmw⟩ : ∃ s, Sha.M (Sha.wd l) t = s := ⟨_, rfl⟩
              rw [hs] at hrx hnext
              rw [hmw] at hnext ⊢
              have hc0 := st_cell (i := 0) hrx (by decide) hlt hj0
              have hc1 := st_cell (i := 1) hrx (by decide) hlt hj1
              have hc2 := st_cell (i := 2) hrx (by decide) hlt hj2
              have hc4 := st_cell (i := 4) hrx (by decide) hlt hj4
              have hc5 := st_cell (i := 5) hrx (by decide) hlt hj5
              have hc6 := st_cell (i := 6) hrx (by decide) hlt hj6
              have hc7 := st_cell (i := 7) hrx (by decide) hlt hj7
              have hc3 := st_cell (i := 3) hrx (by decide) hlt hj3
              change _ = some (Value.int .u32 (s.a.toNat : Int)) at hc0
              change _ = some (Value.int .u32 (s.b.toNat : Int)) at hc1
              change _ = some (Value.int .u32 (s.c.toNat : Int)) at hc2
              change _ = some (Value.int .u32 (s.d.toNat : Int)) at hc3
              change _ = some (Value.int .u32 (s.e.toNat : Int)) at hc4
              change _ = some (Value.int .u32 (s.f.toNat : Int)) at hc5
              change _ = some (Value.int .u32 (s.g.toNat : Int)) at hc6
              change _ = some (Value.int .u32 (s.h.toNat : Int)) at hc7
              have hst := st_next s t j3 j7 hlt (Sha.kc t) mw hj3 hj7
              have HNEXT := Lib.hid hnext
              have HSTEP := Lib.hid hst
              have HT := Lib.hid ht
              have HLO := Lib.hid hlo
              have HK7 := Lib.hid hk7
              clear hnext hst ht hs hmw hlo hk7 hlr hhr hhS hkw hrm hrk2 hrx2 hrg h7s h8s halS
              rw [hT0]
              clear hT0
              simp only [List.setIfInBounds_toArray, List.set_cons_succ, List.set_cons_zero]
              gi_wp2
              refine wpIn_region_vals (wide_round l0) [Pr.eq (.func (.func 53) #[] #[.pointer (some ⟨bx, 0, none⟩), .pointer (some ⟨bt, 0, none⟩)]), Pr.eq (.pointer (some ⟨bx, j0, none⟩)), Pr.eq (.pointer (some ⟨bx, j0, none⟩)), Pr.eq (.int .u32 ((s.a).toNat : Int)), Pr.eq (.func (.func 53) #[] #[.pointer (some ⟨bx, 0, none⟩), .pointer (some ⟨bt, 0, none⟩)]), Pr.eq (.pointer (some ⟨bx, j1, none⟩)), Pr.eq (.pointer (some ⟨bx, j1, none⟩)), Pr.eq (.int .u32 ((s.b).toNat : Int)), Pr.eq (.func (.func 53) #[] #[.pointer (some ⟨bx, 0, none⟩), .pointer (some ⟨bt, 0, none⟩)]), Pr.eq (.pointer (some ⟨bx, j2, none⟩)), Pr.eq (.pointer (some ⟨bx, j2, none⟩)), Pr.eq (.int .u32 ((s.c).toNat : Int)), Pr.eq (.int .u32 ((s.a).toNat : Int)), Pr.eq (.int .u32 ((s.b).toNat : Int)), Pr.eq (.int .u32 ((s.c).toNat : Int))] (by kernel_rfl) (by kernel_rfl) (by kernel_rfl) (by kernel_rfl) (by kernel_rfl) ⟨?_, ?_, ?_, ?_, ?_, ?_, ?_, ?_, ?_, ?_, ?_, ?_, ?_, ?_, ?_, trivial⟩ ?_
              · exact fun ac W hL he => stepOk_want rfl (op_move rfl (he.keep (.tmp 12) (by kernel_rfl)))
              · intro ac W hL he; refine stepOk_want rfl ?_; have e0 : ac.eval (.tmp 49) = (.func (.func 53) #[] #[.pointer (some ⟨bx, 0, none⟩), .pointer (some ⟨bt, 0, none⟩)]) := (he.get 0 49 (by kernel_rfl) rfl); exact op_callV (vs := #[.int .i64 0]) rfl e0 (by simp only [List.map_toArray, List.map_cons, List.map_nil]; rfl) (enters_of Try.func53 (by kernel_rfl) rfl) (by rfl) ((at_any 0 t j0 bx bt W (by decide) (by decide) hlt hj0 (hL.cell hct)).mono fun e W' ⟨he', hb⟩ => ⟨_, he', hb ▸ Later.refl _, rfl⟩)
              · exact fun ac W hL he => stepOk_want rfl (op_nil rfl (he.get 1 50 (by kernel_rfl) rfl) rfl)
              · exact fun ac W hL he => stepOk_want rfl (op_load rfl (he.get 2 51 (by kernel_rfl) rfl) (load32 (hL.cell hc0)) rfl)
              · exact fun ac W hL he => stepOk_want rfl (op_move rfl (he.keep (.tmp 12) (by kernel_rfl)))
              · intro ac W hL he; refine stepOk_want rfl ?_; have e0 : ac.eval (.tmp 53) = (.func (.func 53) #[] #[.pointer (some ⟨bx, 0, none⟩), .pointer (some ⟨bt, 0, none⟩)]) := (he.get 4 53 (by kernel_rfl) rfl); exact op_callV (vs := #[.int .i64 1]) rfl e0 (by simp only [List.map_toArray, List.map_cons, List.map_nil]; rfl) (enters_of Try.func53 (by kernel_rfl) rfl) (by rfl) ((at_any 1 t j1 bx bt W (by decide) (by decide) hlt hj1 (hL.cell hct)).mono fun e W' ⟨he', hb⟩ => ⟨_, he', hb ▸ Later.refl _, rfl⟩)
              · exact fun ac W hL he => stepOk_want rfl (op_nil rfl (he.get 5 54 (by kernel_rfl) rfl) rfl)
              · exact fun ac W hL he => stepOk_want rfl (op_load rfl (he.get 6 55 (by kernel_rfl) rfl) (load32 (hL.cell hc1)) rfl)
              · exact fun ac W hL he => stepOk_want rfl (op_move rfl (he.keep (.tmp 12) (by kernel_rfl)))
              · intro ac W hL he; refine stepOk_want rfl ?_; have e0 : ac.eval (.tmp 57) = (.func (.func 53) #[] #[.pointer (some ⟨bx, 0, none⟩), .pointer (some ⟨bt, 0, none⟩)]) := (he.get 8 57 (by kernel_rfl) rfl); exact op_callV (vs := #[.int .i64 2]) rfl e0 (by simp only [List.map_toArray, List.map_cons, List.map_nil]; rfl) (enters_of Try.func53 (by kernel_rfl) rfl) (by rfl) ((at_any 2 t j2 bx bt W (by decide) (by decide) hlt hj2 (hL.cell hct)).mono fun e W' ⟨he', hb⟩ => ⟨_, he', hb ▸ Later.refl _, rfl⟩)
              · exact fun ac W hL he => stepOk_want rfl (op_nil rfl (he.get 9 58 (by kernel_rfl) rfl) rfl)
              · exact fun ac W hL he => stepOk_want rfl (op_load rfl (he.get 10 59 (by kernel_rfl) rfl) (load32 (hL.cell hc2)) rfl)
              · exact fun ac W hL he => stepOk_want rfl (op_assign rfl (he.get 3 52 (by kernel_rfl) rfl))
              · exact fun ac W hL he => stepOk_want rfl (op_assign rfl (he.get 7 56 (by kernel_rfl) rfl))
              · exact fun ac W hL he => stepOk_want rfl (op_assign rfl (he.get 11 60 (by kernel_rfl) rfl))
              · intro xs W1 hL1 hx
                have h12 : xs 12 = wordV s.a := hx 12 (by decide)
                have h13 : xs 13 = wordV s.b := hx 13 (by decide)
                have h14 : xs 14 = wordV s.c := hx 14 (by decide)
                clear hx
                simp only [putL, Nat.reduceAdd, Act.put, List.setIfInBounds_toArray, List.set_cons_succ, List.set_cons_zero, h12, h13, h14]
                clear h12 h13 h14
                replace hrx := hrx.later hL1
                replace hct := hL1.cell hct
                replace hc3 := hL1.cell hc3
                replace hc4 := hL1.cell hc4
                replace hc5 := hL1.cell hc5
                replace hc6 := hL1.cell hc6
                replace hc7 := hL1.cell hc7
                replace hc7f := hL1.cell hc7f
                replace hc8f := hL1.cell hc8f
                replace hck := hL1.cell hck
                replace hrl := hrl.later hL1
                replace hrh := hrh.later hL1
                clear hc0 hc1 hc2
                gi_wp2
                refine wpIn_region_vals (wide_round l0) [Pr.eq (.func (.func 53) #[] #[.pointer (some ⟨bx, 0, none⟩), .pointer (some ⟨bt, 0, none⟩)]), Pr.eq (.pointer (some ⟨bx, j4, none⟩)), Pr.eq (.pointer (some ⟨bx, j4, none⟩)), Pr.eq (.int .u32 ((s.e).toNat : Int)), Pr.eq (.func (.func 53) #[] #[.pointer (some ⟨bx, 0, none⟩), .pointer (some ⟨bt, 0, none⟩)]), Pr.eq (.pointer (some ⟨bx, j5, none⟩)), Pr.eq (.pointer (some ⟨bx, j5, none⟩)), Pr.eq (.int .u32 ((s.f).toNat : Int)), Pr.eq (.func (.func 53) #[] #[.pointer (some ⟨bx, 0, none⟩), .pointer (some ⟨bt, 0, none⟩)]), Pr.eq (.pointer (some ⟨bx, j6, none⟩)), Pr.eq (.pointer (some ⟨bx, j6, none⟩)), Pr.eq (.int .u32 ((s.g).toNat : Int)), Pr.eq (.int .u32 ((s.e).toNat : Int)), Pr.eq (.int .u32 ((s.f).toNat : Int)), Pr.eq (.int .u32 ((s.g).toNat : Int))] (by kernel_rfl) (by kernel_rfl) (by kernel_rfl) (by kernel_rfl) (by kernel_rfl) ⟨?_, ?_, ?_, ?_, ?_, ?_, ?_, ?_, ?_, ?_, ?_, ?_, ?_, ?_, ?_, trivial⟩ ?_
                · exact fun ac W hL he => stepOk_want rfl (op_move rfl (he.keep (.tmp 12) (by kernel_rfl)))
                · intro ac W hL he; refine stepOk_want rfl ?_; have e0 : ac.eval (.tmp 61) = (.func (.func 53) #[] #[.pointer (some ⟨bx, 0, none⟩), .pointer (some ⟨bt, 0, none⟩)]) := (he.get 0 61 (by kernel_rfl) rfl); exact op_callV (vs := #[.int .i64 4]) rfl e0 (by simp only [List.map_toArray, List.map_cons, List.map_nil]; rfl) (enters_of Try.func53 (by kernel_rfl) rfl) (by rfl) ((at_any 4 t j4 bx bt W (by decide) (by decide) hlt hj4 (hL.cell hct)).mono fun e W' ⟨he', hb⟩ => ⟨_, he', hb ▸ Later.refl _, rfl⟩)
                · exact fun ac W hL he => stepOk_want rfl (op_nil rfl (he.get 1 62 (by kernel_rfl) rfl) rfl)
                · exact fun ac W hL he => stepOk_want rfl (op_load rfl (he.get 2 63 (by kernel_rfl) rfl) (load32 (hL.cell hc4)) rfl)
                · exact fun ac W hL he => stepOk_want rfl (op_move rfl (he.keep (.tmp 12) (by kernel_rfl)))
                · intro ac W hL he; refine stepOk_want rfl ?_; have e0 : ac.eval (.tmp 65) = (.func (.func 53) #[] #[.pointer (some ⟨bx, 0, none⟩), .pointer (some ⟨bt, 0, none⟩)]) := (he.get 4 65 (by kernel_rfl) rfl); exact op_callV (vs := #[.int .i64 5]) rfl e0 (by simp only [List.map_toArray, List.map_cons, List.map_nil]; rfl) (enters_of Try.func53 (by kernel_rfl) rfl) (by rfl) ((at_any 5 t j5 bx bt W (by decide) (by decide) hlt hj5 (hL.cell hct)).mono fun e W' ⟨he', hb⟩ => ⟨_, he', hb ▸ Later.refl _, rfl⟩)
                · exact fun ac W hL he => stepOk_want rfl (op_nil rfl (he.get 5 66 (by kernel_rfl) rfl) rfl)
                · exact fun ac W hL he => stepOk_want rfl (op_load rfl (he.get 6 67 (by kernel_rfl) rfl) (load32 (hL.cell hc5)) rfl)
                · exact fun ac W hL he => stepOk_want rfl (op_move rfl (he.keep (.tmp 12) (by kernel_rfl)))
                · intro ac W hL he; refine stepOk_want rfl ?_; have e0 : ac.eval (.tmp 69) = (.func (.func 53) #[] #[.pointer (some ⟨bx, 0, none⟩), .pointer (some ⟨bt, 0, none⟩)]) := (he.get 8 69 (by kernel_rfl) rfl); exact op_callV (vs := #[.int .i64 6]) rfl e0 (by simp only [List.map_toArray, List.map_cons, List.map_nil]; rfl) (enters_of Try.func53 (by kernel_rfl) rfl) (by rfl) ((at_any 6 t j6 bx bt W (by decide) (by decide) hlt hj6 (hL.cell hct)).mono fun e W' ⟨he', hb⟩ => ⟨_, he', hb ▸ Later.refl _, rfl⟩)
                · exact fun ac W hL he => stepOk_want rfl (op_nil rfl (he.get 9 70 (by kernel_rfl) rfl) rfl)
                · exact fun ac W hL he => stepOk_want rfl (op_load rfl (he.get 10 71 (by kernel_rfl) rfl) (load32 (hL.cell hc6)) rfl)
                · exact fun ac W hL he => stepOk_want rfl (op_assign rfl (he.get 3 64 (by kernel_rfl) rfl))
                · exact fun ac W hL he => stepOk_want rfl (op_assign rfl (he.get 7 68 (by kernel_rfl) rfl))
                · exact fun ac W hL he => stepOk_want rfl (op_assign rfl (he.get 11 72 (by kernel_rfl) rfl))
                · intro xs W2 hL2 hx
                  have h12 : xs 12 = wordV s.e := hx 12 (by decide)
                  have h13 : xs 13 = wordV s.f := hx 13 (by decide)
                  have h14 : xs 14 = wordV s.g := hx 14 (by decide)
                  clear hx
                  simp only [putL, Nat.reduceAdd, Act.put, List.setIfInBounds_toArray, List.set_cons_succ, List.set_cons_zero, h12, h13, h14]
                  clear h12 h13 h14
                  replace hrx := hrx.later hL2
                  replace hct := hL2.cell hct
                  replace hc3 := hL2.cell hc3
                  replace hc7 := hL2.cell hc7
                  replace hc7f := hL2.cell hc7f
                  replace hc8f := hL2.cell hc8f
                  replace hck := hL2.cell hck
                  replace hrl := hrl.later hL2
                  replace hrh := hrh.later hL2
                  clear hc4 hc5 hc6
                  gi_wp2
                  refine wpIn_region_vals (wide_round l0) [Pr.eq (.func (.func 53) #[] #[.pointer (some ⟨bx, 0, none⟩), .pointer (some ⟨bt, 0, none⟩)]), Pr.eq (.pointer (some ⟨bx, j7, none⟩)), Pr.eq (.pointer (some ⟨bx, j7, none⟩)), Pr.eq (.int .u32 ((s.h).toNat : Int)), Pr.eq (.func (.func 59) #[] #[.pointer (some ⟨hs, 0, none⟩), .pointer (some ⟨hp, 0, none⟩)]), Pr.eq (.int .u32 ((s.e).toNat : Int)), Pr.eq (.int .u32 ((Sha.S1 s.e).toNat : Int)), Pr.eq (.int .u32 ((s.h + Sha.S1 s.e).toNat : Int)), Pr.eq (.int .u32 ((s.g).toNat : Int)), Pr.eq (.int .u32 ((s.e).toNat : Int)), Pr.eq (.int .u32 ((s.f).toNat : Int)), Pr.eq (.int .u32 ((s.g).toNat : Int)), Pr.eq (.int .u32 ((s.f ^^^ s.g).toNat : Int)), Pr.eq (.int .u32 ((s.e &&& (s.f ^^^ s.g)).toNat : Int)), Pr.eq (.int .u32 ((s.g ^^^ (s.e &&& (s.f ^^^ s.g))).toNat : Int)), Pr.eq (.int .u32 ((s.h + Sha.S1 s.e + (s.g ^^^ (s.e &&& (s.f ^^^ s.g)))).toNat : Int)), Pr.eq (.int .i64 (t : Int)), Pr.eq (.pointer (some ⟨bk, t, none⟩)), Pr.eq (.int .u32 ((Sha.kc t).toNat : Int)), Pr.eq (.int .u32 ((s.h + Sha.S1 s.e + (s.g ^^^ (s.e &&& (s.f ^^^ s.g))) + Sha.kc t).toNat : Int)), Pr.eq (.int .u32 ((mw).toNat : Int)), Pr.eq (.int .u32 ((s.h + Sha.S1 s.e + (s.g ^^^ (s.e &&& (s.f ^^^ s.g))) + Sha.kc t + mw).toNat : Int)), Pr.eq (.int .u32 ((s.h + Sha.S1 s.e + (s.g ^^^ (s.e &&& (s.f ^^^ s.g))) + Sha.kc t + mw).toNat : Int))] (by kernel_rfl) (by kernel_rfl) (by kernel_rfl) (by kernel_rfl) (by kernel_rfl) ⟨?_, ?_, ?_, ?_, ?_, ?_, ?_, ?_, ?_, ?_, ?_, ?_, ?_, ?_, ?_, ?_, ?_, ?_, ?_, ?_, ?_, ?_, ?_, trivial⟩ ?_
                  · exact fun ac W hL he => stepOk_want rfl (op_move rfl (he.keep (.tmp 12) (by kernel_rfl)))
                  · intro ac W hL he; refine stepOk_want rfl ?_; have e0 : ac.eval (.tmp 73) = (.func (.func 53) #[] #[.pointer (some ⟨bx, 0, none⟩), .pointer (some ⟨bt, 0, none⟩)]) := (he.get 0 73 (by kernel_rfl) rfl); exact op_callV (vs := #[.int .i64 7]) rfl e0 (by simp only [List.map_toArray, List.map_cons, List.map_nil]; rfl) (enters_of Try.func53 (by kernel_rfl) rfl) (by rfl) ((at_any 7 t j7 bx bt W (by decide) (by decide) hlt hj7 (hL.cell hct)).mono fun e W' ⟨he', hb⟩ => ⟨_, he', hb ▸ Later.refl _, rfl⟩)
                  · exact fun ac W hL he => stepOk_want rfl (op_nil rfl (he.get 1 74 (by kernel_rfl) rfl) rfl)
                  · exact fun ac W hL he => stepOk_want rfl (op_load rfl (he.get 2 75 (by kernel_rfl) rfl) (load32 (hL.cell hc7)) rfl)
                  · exact fun ac W hL he => stepOk_want rfl (op_load rfl (he.keep (.tmp 8) (by kernel_rfl)) (loadF (hL.cell hc8f)) rfl)
                  · exact fun ac W hL he => stepOk_want rfl (op_move rfl (he.keep (.tmp 16) (by kernel_rfl)))
                  · intro ac W hL he; refine stepOk_want rfl ?_; have e0 : ac.eval (.tmp 77) = (.func (.func 59) #[] #[.pointer (some ⟨hs, 0, none⟩), .pointer (some ⟨hp, 0, none⟩)]) := (he.get 4 77 (by kernel_rfl) rfl); have e1 : ac.eval (.tmp 78) = (.int .u32 ((s.e).toNat : Int)) := (he.get 5 78 (by kernel_rfl) rfl); exact op_callV rfl e0 (by simp only [List.map_toArray, List.map_cons, List.map_nil, e1]; rfl) (enters_of Try.func59 (by kernel_rfl) rfl) (by rfl) ((rot_S1 s.e W (hrh.later hL)).mono fun e W' ⟨he', hb⟩ => ⟨_, he', hb ▸ Later.refl _, rfl⟩)
                  · exact fun ac W hL he => stepOk_want rfl (op_binOp rfl (he.get 3 76 (by kernel_rfl) rfl) (he.get 6 79 (by kernel_rfl) rfl) eqg_add add32 rfl)
                  · exact fun ac W hL he => stepOk_want rfl (op_move rfl (he.keep (.tmp 18) (by kernel_rfl)))
                  · exact fun ac W hL he => stepOk_want rfl (op_move rfl (he.keep (.tmp 16) (by kernel_rfl)))
                  · exact fun ac W hL he => stepOk_want rfl (op_move rfl (he.keep (.tmp 17) (by kernel_rfl)))
                  · exact fun ac W hL he => stepOk_want rfl (op_move rfl (he.keep (.tmp 18) (by kernel_rfl)))
                  · exact fun ac W hL he => stepOk_want rfl (op_binOp rfl (he.get 10 83 (by kernel_rfl) rfl) (he.get 11 84 (by kernel_rfl) rfl) eqg_xor xor32 rfl)
                  · exact fun ac W hL he => stepOk_want rfl (op_binOp rfl (he.get 9 82 (by kernel_rfl) rfl) (he.get 12 85 (by kernel_rfl) rfl) eqg_and and32 rfl)
                  · exact fun ac W hL he => stepOk_want rfl (op_binOp rfl (he.get 8 81 (by kernel_rfl) rfl) (he.get 13 86 (by kernel_rfl) rfl) eqg_xor xor32 rfl)
                  · exact fun ac W hL he => stepOk_want rfl (op_binOp rfl (he.get 7 80 (by kernel_rfl) rfl) (he.get 14 87 (by kernel_rfl) rfl) eqg_add add32 rfl)
                  · exact fun ac W hL he => stepOk_want rfl (op_load rfl (he.keep (.tmp 10) (by kernel_rfl)) (loadI (hL.cell hct)) rfl)
                  · exact fun ac W hL he => stepOk_want rfl (op_idx rfl (he.keep (.tmp 6) (by kernel_rfl)) (he.get 16 89 (by kernel_rfl) rfl) (idxK hlt) rfl)
                  · exact fun ac W hL he => stepOk_want rfl (op_load rfl (he.get 17 90 (by kernel_rfl) rfl) (load32 (hL.cell hck)) rfl)
                  · exact fun ac W hL he => stepOk_want rfl (op_binOp rfl (he.get 15 88 (by kernel_rfl) rfl) (he.get 18 91 (by kernel_rfl) rfl) eqg_add add32 rfl)
                  · exact fun ac W hL he => stepOk_want rfl (op_move rfl (he.keep (.tmp 11) (by kernel_rfl)))
                  · exact fun ac W hL he => stepOk_want rfl (op_binOp rfl (he.get 19 92 (by kernel_rfl) rfl) (he.get 20 93 (by kernel_rfl) rfl) eqg_add add32 rfl)
                  · exact fun ac W hL he => stepOk_want rfl (op_assign rfl (he.get 21 94 (by kernel_rfl) rfl))
                  · intro xs W3 hL3 hx
                    have h22 : xs 22 = wordV (s.h + Sha.S1 s.e + (s.g ^^^ (s.e &&& (s.f ^^^ s.g))) + Sha.kc t + mw) := hx 22 (by decide)
                    clear hx
                    simp only [putL, Nat.reduceAdd, Act.put, List.setIfInBounds_toArray, List.set_cons_succ, List.set_cons_zero, h22]
                    clear h22
                    replace hrx := hrx.later hL3
                    replace hct := hL3.cell hct
                    replace hc3 := hL3.cell hc3
                    replace hc7f := hL3.cell hc7f
                    replace hrl := hrl.later hL3
                    have hf3 := hrx.frozen j3
                    obtain ⟨ad, had⟩ : ∃ y, s.h + Sha.S1 s.e + (s.g ^^^ (s.e &&& (s.f ^^^ s.g))) + Sha.kc t + mw = y := ⟨_, rfl⟩
                    rw [had]
                    have HAD := Lib.hid had
                    have hda := bv_add s.d ad
                    clear hc7 hc8f hck hrh had
                    gi_wp2_with (refine ⟨trivial, ?_⟩; gi_at_call 53; refine (CallsIn.inRound l0 (callsIn_wide.2 (at_any 3 t j3 bx bt _ (by decide) (by decide) hlt hj3 hct))).mono ?_; rintro e w' ⟨rfl, rfl⟩)
                    refine opIn_of_op (wide_round l0) (plain_of rfl) (op_storeK (x := .tmp 101) (y := .tmp 100) (vx := .pointer (some ⟨bx, j3, none⟩)) (vy := wordV (s.d + ad)) rfl (by rfl) (by rfl) (store32 hc3 hf3) ?_)
                    have hrx4 := hrx.set j3 (wordV (s.d + ad))
                    have hg4 := grown_set W3 bx j3 (wordV (s.d + ad))
                    have hk4 : ∀ k, S k → (W3.setCell ⟨bx, j3, none⟩ (wordV (s.d + ad))).heap[k]? = W3.heap[k]? := fun k hk => heap_setCell_other W3 _ _ _ (hSo k hk).2.1
                    have hc7f4 : (W3.setCell ⟨bx, j3, none⟩ (wordV (s.d + ad))).cell? ⟨b7, 0, none⟩ = some (.func (.func 59) #[] #[.pointer (some ⟨ls, 0, none⟩), .pointer (some ⟨lp, 0, none⟩)]) := by rw [World.cell?_of_block (w := W3) (hk4 b7 hlS.1)]; exact hc7f
                    have hrl4 := hrl.keep (hk4 _ hlS.2.1) (hk4 _ hlS.2.2.1) (hk4 _ hlS.2.2.2)
                    have hct4 : (W3.setCell ⟨bx, j3, none⟩ (wordV (s.d + ad))).cell? ⟨bt, 0, none⟩ = some (.int .i64 (t : Int)) := by rw [World.cell?_of_block (w := W3) (heap_setCell_other W3 _ _ _ hbtx)]; exact hct
                    generalize W3.setCell ⟨bx, j3, none⟩ (wordV (s.d + ad)) = W4 at *
                    clear hc3 hf3 hct hc7f hrl hda
                    gi_wp2
                    refine wpIn_region_last (wide_round l0) [Pr.eq (.func (.func 53) #[] #[.pointer (some ⟨bx, 0, none⟩), .pointer (some ⟨bt, 0, none⟩)]), Pr.eq (.pointer (some ⟨bx, j7, none⟩)), Pr.eq (.int .u32 ((ad).toNat : Int)), Pr.eq (.func (.func 59) #[] #[.pointer (some ⟨ls, 0, none⟩), .pointer (some ⟨lp, 0, none⟩)]), Pr.eq (.int .u32 ((s.a).toNat : Int)), Pr.eq (.int .u32 ((Sha.S0 s.a).toNat : Int)), Pr.eq (.int .u32 ((ad + Sha.S0 s.a).toNat : Int)), Pr.eq (.int .u32 ((s.a).toNat : Int)), Pr.eq (.int .u32 ((s.b).toNat : Int)), Pr.eq (.int .u32 ((s.c).toNat : Int)), Pr.eq (.int .u32 ((s.b ||| s.c).toNat : Int)), Pr.eq (.int .u32 ((s.a &&& (s.b ||| s.c)).toNat : Int)), Pr.eq (.int .u32 ((s.b).toNat : Int)), Pr.eq (.int .u32 ((s.c).toNat : Int)), Pr.eq (.int .u32 ((s.b &&& s.c).toNat : Int)), Pr.eq (.int .u32 ((s.a &&& (s.b ||| s.c) ||| s.b &&& s.c).toNat : Int)), Pr.eq (.int .u32 ((ad + Sha.S0 s.a + (s.a &&& (s.b ||| s.c) ||| s.b &&& s.c)).toNat : Int)), Pr.eq (.pointer (some ⟨bx, j7, none⟩))] (by kernel_rfl) (by kernel_rfl) (by kernel_rfl) (by kernel_rfl) (by kernel_rfl) (by kernel_rfl) rfl ⟨?_, ?_, ?_, ?_, ?_, ?_, ?_, ?_, ?_, ?_, ?_, ?_, ?_, ?_, ?_, ?_, ?_, ?_, trivial⟩ ?_
                    · exact fun ac W hL he => stepOk_want rfl (op_move rfl (he.keep (.tmp 12) (by kernel_rfl)))
                    · intro ac W hL he; refine stepOk_want rfl ?_; have e0 : ac.eval (.tmp 102) = (.func (.func 53) #[] #[.pointer (some ⟨bx, 0, none⟩), .pointer (some ⟨bt, 0, none⟩)]) := (he.get 0 102 (by kernel_rfl) rfl); exact op_callV (vs := #[.int .i64 7]) rfl e0 (by simp only [List.map_toArray, List.map_cons, List.map_nil]; rfl) (enters_of Try.func53 (by kernel_rfl) rfl) (by rfl) ((at_any 7 t j7 bx bt W (by decide) (by decide) hlt hj7 (hL.cell hct4)).mono fun e W' ⟨he', hb⟩ => ⟨_, he', hb ▸ Later.refl _, rfl⟩)
                    · exact fun ac W hL he => stepOk_want rfl (op_move rfl (he.keep (.tmp 19) (by kernel_rfl)))
                    · exact fun ac W hL he => stepOk_want rfl (op_load rfl (he.keep (.tmp 7) (by kernel_rfl)) (loadF (hL.cell hc7f4)) rfl)
                    · exact fun ac W hL he => stepOk_want rfl (op_move rfl (he.keep (.tmp 13) (by kernel_rfl)))
                    · intro ac W hL he; refine stepOk_want rfl ?_; have e0 : ac.eval (.tmp 105) = (.func (.func 59) #[] #[.pointer (some ⟨ls, 0, none⟩), .pointer (some ⟨lp, 0, none⟩)]) := (he.get 3 105 (by kernel_rfl) rfl); have e1 : ac.eval (.tmp 106) = (.int .u32 ((s.a).toNat : Int)) := (he.get 4 106 (by kernel_rfl) rfl); exact op_callV rfl e0 (by simp only [List.map_toArray, List.map_cons, List.map_nil, e1]; rfl) (enters_of Try.func59 (by kernel_rfl) rfl) (by rfl) ((rot_S0 s.a W (hrl4.later hL)).mono fun e W' ⟨he', hb⟩ => ⟨_, he', hb ▸ Later.refl _, rfl⟩)
                    · exact fun ac W hL he => stepOk_want rfl (op_binOp rfl (he.get 2 104 (by kernel_rfl) rfl) (he.get 5 107 (by kernel_rfl) rfl) eqg_add add32 rfl)
                    · exact fun ac W hL he => stepOk_want rfl (op_move rfl (he.keep (.tmp 13) (by kernel_rfl)))
                    · exact fun ac W hL he => stepOk_want rfl (op_move rfl (he.keep (.tmp 14) (by kernel_rfl)))
                    · exact fun ac W hL he => stepOk_want rfl (op_move rfl (he.keep (.tmp 15) (by kernel_rfl)))
                    · exact fun ac W hL he => stepOk_want rfl (op_binOp rfl (he.get 8 110 (by kernel_rfl) rfl) (he.get 9 111 (by kernel_rfl) rfl) eqg_or or32 rfl)
                    · exact fun ac W hL he => stepOk_want rfl (op_binOp rfl (he.get 7 109 (by kernel_rfl) rfl) (he.get 10 112 (by kernel_rfl) rfl) eqg_and and32 rfl)
                    · exact fun ac W hL he => stepOk_want rfl (op_move rfl (he.keep (.tmp 14) (by kernel_rfl)))
                    · exact fun ac W hL he => stepOk_want rfl (op_move rfl (he.keep (.tmp 15) (by kernel_rfl)))
                    · exact fun ac W hL he => stepOk_want rfl (op_binOp rfl (he.get 12 114 (by kernel_rfl) rfl) (he.get 13 115 (by kernel_rfl) rfl) eqg_and and32 rfl)
                    · exact fun ac W hL he => stepOk_want rfl (op_binOp rfl (he.get 11 113 (by kernel_rfl) rfl) (he.get 14 116 (by kernel_rfl) rfl) eqg_or or32 rfl)
                    · exact fun ac W hL he => stepOk_want rfl (op_binOp rfl (he.get 6 108 (by kernel_rfl) rfl) (he.get 15 117 (by kernel_rfl) rfl) eqg_add add32 rfl)
                    · exact fun ac W hL he => stepOk_want rfl (op_nil rfl (he.get 1 103 (by kernel_rfl) rfl) rfl)
                    · intro xs W5 hL5 hx hk hg
                      have e1 := hg 17 119 (by decide) (by kernel_rfl)
                      have e2 := hg 16 118 (by decide) (by kernel_rfl)
                      have v1 : xs 17 = .pointer (some ⟨bx, j7, none⟩) := hx 17 (by decide)
                      have v2 : xs 16 = wordV (ad + Sha.S0 s.a + (s.a &&& (s.b ||| s.c) ||| s.b &&& s.c)) := hx 16 (by decide)
                      rw [v1] at e1
                      rw [v2, BitVec.add_assoc] at e2
                      have hr5 := hrx4.later hL5
                      have hc5' := hr5.cell j7
                      obtain ⟨v7, hv7⟩ : ∃ v, W5.cell? ⟨bx, j7, none⟩ = some v := ⟨_, (hr5.cell j7).trans (Array.getElem?_eq_getElem (by rw [Array.size_setIfInBounds, stC_size]; omega))⟩
                      refine last_store rfl rfl e1 e2 (store32 hv7 (hr5.frozen j7)) ?_
                      have hr6 := hr5.set j7 (wordV (ad + (Sha.S0 s.a + (s.a &&& (s.b ||| s.c) ||| s.b &&& s.c))))
                      have hg6 := grown_set W5 bx j7 (wordV (ad + (Sha.S0 s.a + (s.a &&& (s.b ||| s.c) ||| s.b &&& s.c))))
                      generalize W5.setCell ⟨bx, j7, none⟩ (wordV (ad + (Sha.S0 s.a + (s.a &&& (s.b ||| s.c) ||| s.b &&& s.c)))) = W6 at *
                      clear hx hk hg e1 e2 v1 v2 hc5' hv7
                      have hst : ((stC s t).setIfInBounds j3 (wordV (s.d + ad))).setIfInBounds j7 (wordV (ad + (Sha.S0 s.a + (s.a &&& (s.b ||| s.c) ||| s.b &&& s.c)))) = stC (Sha.rnd (Sha.kc t) mw s) (t + 1) := by rw [← HAD.out]; exact HSTEP.out
                      rw [hst, ← HNEXT.out] at hr6
                      have hG : W.grownBy W6 (some bx) := grown_trans (later_grown hL1 bx) (grown_trans (later_grown hL2 bx) (grown_trans (later_grown hL3 bx) (grown_trans hg4 (grown_trans (later_grown hL5 bx) hg6))))
                      have hsz := hh.size
                      have hpl : (pre ++ [t]).length = t + 1 := by rw [List.length_append, HT.out]; rfl
                      refine (⟨KeepsFrom.of_grownBy hG (fun j e => by cases e; have := HS.out.1; omega), ⟨fun k hk => hG.block k (by have := (hSo k hk).2.2; omega) (fun e => by cases e; exact (hSo _ hk).2.1 rfl), hG.block bm (by have := HBML.out; omega) (fun e => by cases e; exact hmx rfl)⟩, by rw [hpl]; exact hr6, hh.grown hG (fun r e => by cases e; exact .inr (.inl rfl))⟩ : KeepsFrom wf.heap.size W W6 ∧ Keeps S bm W W6 ∧ Row W6 bx 41 (stC (Sha.rs x (Sha.wd l) (pre ++ [t]).length) (pre ++ [t]).length) ∧ Held bm bx wf W6)
            case done =>
              rintro D xs W hD hS ⟨hrx, hh⟩ hK
              rw [hS] at hrx
              have hgW : Row W g T cs := (hh.block g (by have := HS.out.2.2; have := HLW.out.size; omega) hgm hgx).trans hrg
              rw [hT0]
              clear hT0 hrm hrk2 hrx2 h7s h8s halS
              go_upto_region 18 with fail
              obtain ⟨y, hy⟩ : ∃ y, Sha.rs x (Sha.wd l) 64 = y := ⟨_, rfl⟩
              rw [hy] at hrx
              have hld := loadS (o := 0) hrx (st_eight y)
              rw [← show stC y 64 = stC y 0 from rfl] at hld
              have hbl : Sha.blk x l = y.add x := by rw [← hy]; rfl
              have HBL := Lib.hid hbl
              have h8 : o + 8 ≤ cs.size := by
                have := HX.out 7 (by decide)
                have := (Array.getElem?_eq_some_iff.1 this).1
                omega
              have h0 : stTo cs o (y.add x) 0 = cs := rfl
              have H0 := Lib.hid h0
              have hWs := hh.size
              clear hy hbl h0
              go_wp2_with (first | (refine wpList_load rfl 41 (.tmp 9) rfl (.pointer (some ⟨bx, 0, none⟩)) rfl hld ?_))
              go_loopw [20, 21, 121] (fun _ _ t wr => ∃ k : Nat, k ≤ 8 ∧ t = .int .i64 k ∧ Row wr g T (stTo cs o (y.add x) k) ∧ W.grownBy wr (some g)) (fun _ _ t _ => 8 - (intOf t).toNat)
              case atStart => exact ⟨0, by omega, rfl, by rw [H0.out]; exact hgW, grown_refl _ _⟩
              case round =>
                obtain ⟨k, hk, rfl, hrk, hgk⟩ := hrel
                by_cases hlt : k < 8
                · have hix := fun w' : World => idxAgg (W := w') hlt ((stC_get y 64 k hlt).trans (by rw [show (k + 64) % 8 = k from by omega]))
                  have hcx := (hrk.cell (o + k)).trans ((stTo_get cs o (y.add x) k k (Nat.le_refl _) hlt h8).trans (HX.out k hlt))
                  have hfx := hrk.frozen (o + k)
                  have hsu := stTo_succ cs o (y.add x) k hlt
                  rw [st_add_get, BitVec.add_comm] at hsu
                  have HSU := Lib.hid hsu
                  have had := bv_add (x.get k) (y.get k)
                  clear hsu
                  generalize x.get k = xk at *
                  generalize y.get k = yk at *
                  have hxl := xk.isLt
                  have hyl := yk.isLt
                  go_wp2_with fail
                  refine (wpIn_wide (n := 6)).1 ?_
                  refine wpIn_region_last wide_wide [Pr.eq (.pointer (some ⟨g, o, none⟩)), Pr.eq (.int .i64 (k : Int)), Pr.eq (.pointer (some ⟨g, o, none⟩)), Pr.eq (.pointer (some ⟨g, o, none⟩)), Pr.eq (.pointer (some ⟨g, o + k, none⟩)), Pr.eq (.int .u32 (xk.toNat : Int)), Pr.eq (.int .u32 (yk.toNat : Int)), Pr.eq (.int .u32 ((xk + yk).toNat : Int)), Pr.eq (.pointer (some ⟨g, o, none⟩)), Pr.eq (.pointer (some ⟨g, o, none⟩)), Pr.eq (.pointer (some ⟨g, o + k, none⟩))] (by kernel_rfl) (by kernel_rfl) (by kernel_rfl) (by kernel_rfl) (by kernel_rfl) (by kernel_rfl) rfl ⟨?_, ?_, ?_, ?_, ?_, ?_, ?_, ?_, ?_, ?_, ?_, trivial⟩ ?_
                  · exact fun ac W hL he => stepOk_want rfl (op_move rfl (he.keep (.tmp 0) (by kernel_rfl)))
                  · exact fun ac W hL he => stepOk_want rfl (op_move rfl (he.keep (.tmp 20) (by kernel_rfl)))
                  · exact fun ac W hL he => stepOk_want rfl (op_nil rfl (he.get 0 125 (by kernel_rfl) rfl) rfl)
                  · exact fun ac W hL he => stepOk_want rfl (op_fieldAddr rfl (he.get 2 127 (by kernel_rfl) rfl) fieldP rfl)
                  · exact fun ac W hL he => stepOk_want rfl (op_idx rfl (he.get 3 128 (by kernel_rfl) rfl) (he.get 1 126 (by kernel_rfl) rfl) (idxS hlt) rfl)
                  · exact fun ac W hL he => stepOk_want rfl (op_load rfl (he.get 4 129 (by kernel_rfl) rfl) (load32 (hL.cell hcx)) rfl)
                  · exact fun ac W hL he => stepOk_want rfl (op_move rfl (he.keep (.tmp 21) (by kernel_rfl)))
                  · exact fun ac W hL he => stepOk_want rfl (op_binOp rfl (he.get 5 130 (by kernel_rfl) rfl) (he.get 6 131 (by kernel_rfl) rfl) eqg_add add32 rfl)
                  · exact fun ac W hL he => stepOk_want rfl (op_nil rfl (he.get 0 125 (by kernel_rfl) rfl) rfl)
                  · exact fun ac W hL he => stepOk_want rfl (op_fieldAddr rfl (he.get 8 133 (by kernel_rfl) rfl) fieldP rfl)
                  · exact fun ac W hL he => stepOk_want rfl (op_idx rfl (he.get 9 134 (by kernel_rfl) rfl) (he.get 1 126 (by kernel_rfl) rfl) (idxS hlt) rfl)
                  · intro xs W5 hL5 hx hk hg
                    have e1 := hg 10 135 (by decide) (by kernel_rfl)
                    have e2 := hg 7 132 (by decide) (by kernel_rfl)
                    have v1 : xs 10 = .pointer (some ⟨g, o + k, none⟩) := hx 10 (by decide)
                    have v2 : xs 7 = wordV (xk + yk) := hx 7 (by decide)
                    rw [v1] at e1
                    rw [v2] at e2
                    have hr5 := hrk.later hL5
                    refine last_store rfl rfl e1 e2 (store32 (hL5.cell hcx) (hr5.frozen _)) ?_
                    have hr6 := hr5.set (o + k) (wordV (xk + yk))
                    rw [← HSU.out] at hr6
                    have hg6 := grown_trans hgk (grown_trans (later_grown hL5 g) (grown_set W5 g (o + k) (wordV (xk + yk))))
                    clear hx hk hg e1 e2 v1 v2
                    simp only [initL, putL, Nat.reduceAdd, Act.put, List.setIfInBounds_toArray, List.set_cons_succ, List.set_cons_zero]
                    generalize W5.setCell ⟨g, o + k, none⟩ (wordV (xk + yk)) = W6 at *
                    go_wp2_with fail
                    go_roundw
                    case rel => exact ⟨k + 1, by omega, by go_num, hr6, hg6⟩
                    case measure => simp [intOf]; omega
                · obtain rfl : k = 8 := by omega
                  go_wp2_with fail
                  have hDg : D ≠ g := by have := HS.out.2.2; have := HLW.out.size; omega
                  have hKr : wr.heap[D]? = some (.deferred (some [])) := (hgk.block D (Array.getElem?_eq_some_iff.1 hK).1 (fun e => by cases e; exact hDg rfl)).trans hK
                  refine ⟨by simp, .inl ⟨_, _, rfl, run_takeDeferred hKr, ?_⟩⟩
                  refine ⟨_, results_none rfl _ _ _, ?_, ?_⟩
                  · rfl
                  · have hbm' := HBM.out
                    have hwl := HLW.out.size
                    have hst8 : stTo cs o (y.add x) 8 = setFrom cs o ((Sha.blk x l).list.map wordV) := by rw [HBL.out]; rfl
                    rw [← hst8]
                    refine ⟨(World.putObj_heap_other (fun e => hDg e.symm)).trans hrk, hgk.os.trans (hh.os.trans HLW.out.os), hgk.tape.trans (hh.tape.trans HLW.out.tape), hgk.output.trans (hh.output.trans HLW.out.output), ?_, fun k hk hne => ?_⟩
                    · have h1 := hgk.size
                      have h2 : (wr.putObj D (Obj.deferred none)).heap.size = wr.heap.size := by simp [World.putObj]
                      omega
                    · rw [World.putObj_heap_other (by omega), hgk.block k (by omega) hne, hh.block k (by omega) (by omega) (by omega)]
                      exact HLW.out.block k hk
            case stop =>
              rintro D c' pre W _ _ h _
              exact h.elim
end Go.Proofs.Ytfconncnccgenaa
