/- Walks: a key's child. -/
import Derived.Test.YtbjclmfhmdalkaaHm9
set_option linter.unusedVariables false
set_option linter.unusedSimpArgs false
namespace Go.Proofs.Ytbjclmfhmdalkaa
open Go.RowKit
/-- A row of steps: a name and a number each. -/
def Steps (w : World) (B : Option Addr) (ss : List (List UInt8 × Nat)) : Prop :=
  ss ≠ [] → ∃ b o, B = some ⟨b, o, none⟩ ∧ ∀ i (h : i < ss.length), w.cell? ⟨b, o + i * 2, none⟩ = some (.string ⟨ss[i].1.toArray⟩) ∧ w.cell? ⟨b, o + i * 2 + 1, none⟩ = some (.int .u64 (ss[i].2 : Int))
theorem Steps.below {w w' : World} {B : Option Addr} {ss : List (List UInt8 × Nat)} (h : Steps w B ss) (hb : Below w.heap.size w w') : Steps w' B ss := fun hne => by
  obtain ⟨b, o, e, hc⟩ := h hne
  exact ⟨b, o, e, fun i hi => ⟨(hb.cell (block_lt_of_cell (hc i hi).1)).trans (hc i hi).1, (hb.cell (block_lt_of_cell (hc i hi).2)).trans (hc i hi).2⟩⟩
theorem Steps.at_ {w : World} {B : Option Addr} {ss : List (List UInt8 × Nat)} (h : Steps w B ss) {k : Nat} (hk : k < ss.length) : ∃ b o, B = some ⟨b, o, none⟩ ∧ w.cell? ⟨b, o + k * 2, none⟩ = some (.string ⟨ss[k].1.toArray⟩) ∧ w.cell? ⟨b, o + k * 2 + 1, none⟩ = some (.int .u64 (ss[k].2 : Int)) := by
  obtain ⟨b, o, e, hc⟩ := h (by intro e; subst e; simp at hk)
  exact ⟨b, o, e, hc k hk⟩
theorem hm_down_step (key : List UInt8) (ss : List (List UInt8 × Nat)) (k : Nat) (h : k < ss.length) : Hm.down key (ss.take (k + 1)) = Hm.expand (Hm.down key (ss.take k)) (Hm.label ss[k]) 32 := by
  rw [List.take_succ_eq_append_getElem h, Hm.down, Hm.down, List.foldl_append]
  rfl
theorem bytes_push (l : List UInt8) : (ByteArray.mk (l ++ [0]).toArray) = ByteArray.mk l.toArray ++ ByteArray.mk #[0] := by
  apply ByteArray.ext
  simp
theorem hm_be_step (x k : Nat) (h : k < 8) : (Hm.be x).take (k + 1) = (Hm.be x).take k ++ [UInt8.ofNat (x / 2 ^ (56 - 8 * k))] := by
  rw [List.take_succ_eq_append_getElem (by rw [Hm.be_len]; exact h)]
  simp [Hm.be]
theorem be_byte (num e : Nat) : (num : Int) / 2 ^ e % 256 = ((UInt8.ofNat (num / 2 ^ e)).toNat : Int) := by
  rw [UInt8.toNat_ofNat', Int.natCast_emod, Int.natCast_ediv, Int.natCast_pow]
  rfl
theorem load_rdH {b o : Nat} {l : List UInt8} {W : World} (hl : l.length = 32) (hr : Rd W (some ⟨b, o, none⟩) l) : (Instr.loadAt 25 (.pointer (some ⟨b, o, none⟩))).run Try.prog W = .ok (.agg (hC l)) W := by
  have e : hC l = (l.map byteV).toArray := hC_full l hl
  rw [e]
  refine run_loadAt_mid W b o 25 (l.map byteV) _ (fun j v hv => ?_) Try.underlying25 rfl (by rw [List.length_map, hl]; kernel_rfl)
  have hj : j < l.length := by
    rcases Nat.lt_or_ge j l.length with h | h
    · exact h
    · rw [List.getElem?_eq_none (by simpa using h)] at hv; cases hv
  obtain ⟨b', o', e, hc⟩ := hr.at_ hj
  injection e with e
  injection e with e1 e2
  subst e1 e2
  rw [hc, ← hv, List.getElem?_map, List.getElem?_eq_getElem hj]
  rfl
theorem run_arr32 {A : Option Addr} {c : Nat} (W : World) : (Instr.arrayAt 25 (.slice A 32 c)).run Try.prog W = .ok (.pointer A) W := by
  simp [Instr.arrayAt, run_underlying Try.underlying25]
theorem wpList_arr {P : Program} {w : World} {ops : Array Oper} {rest : List Oper} {o : Oper} {a : Act} {Q : Exit → Act → World → Prop} (hgd : o.guard = none) (T : TypeId) (x : Operand) (ho : o.op = .sliceToArrayPointer T x) (vx : Value) (hx : a.eval x = vx) {v : Value} {w' : World}
    (hr : (Instr.arrayAt T vx).run P w = .ok v w') (h : wpList P ops Q rest (a.put o.dst v) w') : wpList P ops Q (o :: rest) a w :=
  wpList_plain hgd fun _ hK => by
    unfold Oper.wp execOp
    simp only [ho, Sem.run_bind, Sem.run_pure, Result.andThen_ok, hx, hr]
    exact hK _ _ h
set_option maxRecDepth 100000 in
set_option maxHeartbeats 4000000 in
theorem child_any (A : Option Addr) (n ca : Nat) (key : List UInt8) (B : Option Addr) (m cb : Nat) (ss : List (List UInt8 × Nat)) (w : World) (hn : key.length = n) (hc : n ≤ ca) (hcm : ca ≤ 9223372036854775807) (hnm : n ≤ 1000000) (hr : Rd w A key)
    (hss : ss.length = m) (hm : m ≤ 1000000) (hs1 : ∀ s ∈ ss, s.1.length ≤ 100000 ∧ s.2 < 18446744073709551616) (hst : Steps w B ss) :
    Calls Try.prog 16 #[.slice A n ca, .slice B m cb] w fun e w' => e = .returned (.agg (hC (Hm.child key ss))) ∧ Below w.heap.size w w' := by
  obtain ⟨H, hH⟩ : ∃ H, Sha.sum key = H := ⟨_, rfl⟩
  have hHl : H.length = 32 := by rw [← hH]; exact Sha.sum_len _
  have hrow4 := Row.new w 25 (hC [])
  have hL1 := (Later.refl w).alloc (.cells (hC []) 25)
  have HN := Lib.hid hn
  have HM := Lib.hid hss
  have HHL := Lib.hid hHl
  have hcall := sum_at A n ca key H 22 (w.alloc (.cells (hC []) 25)) (hr.later hL1) hn hc hcm (by omega) hH
  have HH := Lib.hid hH
  clear hn hss hHl hH
  go_enter Try.func16, Try.ntmps16
  go_upto_region 1 with (first
    | (with_reducible refine wpList_alloc rfl 25 rfl (allocH _) ?_)
    | fail)
  obtain ⟨g4, hg4⟩ : ∃ q, q = w.heap.size := ⟨_, rfl⟩
  have hg4w : w.heap.size ≤ g4 := by omega
  rw [← hg4] at hrow4 ⊢
  clear hg4
  generalize w.alloc (.cells (hC []) 25) = w1 at *
  go_upto_region 2 with (first
    | (refine wpList_buildSl rfl 23 1 _ rfl #[(0, .slice A n ca)] rfl (build1S _ _ _ _) ?_)
    | (go_at_call 29; refine hcall.mono ?_; clear hcall; rintro e w2 ⟨rfl, hb2⟩; have hL2 : Later w1 w2 := ((Later.refl w1).alloc _).step (hb2.mono (by simp)); obtain ⟨w3, hst3, hr5, hg3⟩ := storeH (a := []) (b := H) (by simp) (by rw [HHL.out]; omega) (Row.new w2 25 (hC [])))
    | (with_reducible refine wpList_alloc rfl 25 rfl (allocH _) ?_)
    | (refine wpList_store rfl 25 (.tmp 5) (.tmp 14) rfl (.pointer (some ⟨w2.heap.size, 0, none⟩)) (.agg (hC H)) rfl rfl hst3 ?_)
    | fail)
  have hL3 : Later w1 w3 := Below.grown (hL2.alloc _) hg3 (by have := hL2.size; simp only [World.size_alloc]; omega) (fun j e => by cases e; exact hL2.size)
  obtain ⟨g5, hg5⟩ : ∃ q, q = w2.heap.size := ⟨_, rfl⟩
  have hg5w : w.heap.size ≤ g5 := by rw [hg5]; exact Nat.le_trans hL1.size hL2.size
  have hg45 : g4 ≠ g5 := by have := hrow4.lt; have := hL2.size; omega
  rw [← hg5] at hr5 ⊢
  have hr4 := hrow4.later hL3
  have hLw : Later w w3 := hL1.step hL3
  have hrk := hr.later hLw
  clear hst3 hg3 hg5 hL2 hb2 hL3 hL1 hrow4 hr
  have hch0 : Hm.child key (ss.take 0) = H := HH.out
  have hdn0 : Hm.down key (ss.take 0) = key := rfl
  have HC0 := Lib.hid hch0
  have HD0 := Lib.hid hdn0
  clear hch0 hdn0
  go_wp2_with fail
  go_loopw [0, 17] (fun v t wr => ∃ k : Nat, k ≤ m ∧ t = .int .i64 (k : Int) ∧ (∃ S c, v = .slice S (Hm.down key (ss.take k)).length c ∧ (Hm.down key (ss.take k)).length ≤ c ∧ c ≤ 9223372036854775807 ∧ Rd wr S (Hm.down key (ss.take k)) ∧ (Hm.down key (ss.take k)).length ≤ 1000000) ∧ Row wr g5 25 (hC (Hm.child key (ss.take k))) ∧ Row wr g4 25 (hC []) ∧ Below w.heap.size w wr) (fun _ t _ => m - (intOf t).toNat)
  case atStart => exact ⟨0, by omega, rfl, ⟨A, ca, by rw [HD0.out, HN.out], by rw [HD0.out, HN.out]; exact hc, hcm, by rw [HD0.out]; exact hrk, by rw [HD0.out, HN.out]; exact hnm⟩, by rw [HC0.out]; exact hr5, hr4, hLw⟩
  case round =>
    obtain ⟨k, hk, rfl, ⟨S, c, rfl, hcl, hcM, hrS, hlS⟩, hr5k, hr4k, hbk⟩ := hrel
    clear hr5 hr4 hLw hrk HC0 HD0
    have hbs := hbk.size
    by_cases hlt : k < m
    · have hltS : k < ss.length := by rw [HM.out]; exact hlt
      obtain ⟨b, o, rfl, hc1, hc2⟩ := (hst.below hbk).at_ hltS
      obtain ⟨hnl, hnum⟩ := hs1 _ (List.getElem_mem hltS)
      have hdn := hm_down_step key ss k hltS
      have hch : Hm.child key (ss.take (k + 1)) = Hm.down key (ss.take (k + 1)) := by
        rw [Hm.child_down, if_neg]
        intro e
        have := congrArg List.length e
        rw [List.length_take, List.length_nil] at this
        omega
      have hlab : Hm.label ss[k] = ss[k].1 ++ [0] ++ Hm.be ss[k].2 := rfl
      rw [hdn] at hch
      have hCl : (Hm.child key (ss.take k)).length ≤ 32 := by rw [Hm.child_len]; omega
      have HDN := Lib.hid hdn
      have HCH := Lib.hid hch
      have HLAB := Lib.hid hlab
      clear hdn hch hlab
      generalize Hm.down key (ss.take k) = L at *
      generalize Hm.child key (ss.take k) = C at *
      generalize ss[k].1 = nm at *
      generalize ss[k].2 = num at *
      have hrow7 := Row.new wr 42 #[.string ⟨nm.toArray⟩, .int .u64 (num : Int)]
      have hL7 := (Later.refl wr).alloc (.cells #[.string ⟨nm.toArray⟩, .int .u64 (num : Int)] 42)
      obtain ⟨wc, cp, hcv, hown0, hLc⟩ := conv_own (wr.alloc (.cells #[.string ⟨nm.toArray⟩, .int .u64 (num : Int)] 42)) (nm ++ [0]) (by simp; omega)
      rw [bytes_push] at hcv
      rw [World.size_alloc] at hcv hown0
      go_upto_region 6 with fail
      have hown1 : OwnQ 5 wc (wr.heap.size + 1) (.slice (some ⟨wr.heap.size + 1, 0, none⟩) (nm.length + 1) cp) (nm ++ [0]) := by simpa using hown0
      have hsz7 : (wr.alloc (.cells #[.string ⟨nm.toArray⟩, .int .u64 (num : Int)] 42)).heap.size = wr.heap.size + 1 := World.size_alloc _ _
      clear hcv hown0
      generalize wr.alloc (.cells #[.string ⟨nm.toArray⟩, .int .u64 (num : Int)] 42) = w7 at *
      obtain ⟨w6, rfl⟩ : ∃ y, y = wr := ⟨_, rfl⟩
      obtain ⟨g7, hg7⟩ : ∃ q, q = w6.heap.size := ⟨_, rfl⟩
      rw [← hg7] at hown1 hsz7 hrow7 ⊢
      have HG7 := Lib.hid hg7
      have HS7 := Lib.hid hsz7
      have hbe0 : nm ++ [0] ++ (Hm.be num).take 0 = nm ++ [0] := by simp
      have HB0 := Lib.hid hbe0
      have hbs7 : g7 + 1 ≤ wc.heap.size := by have := hLc.size; omega
      clear hg7 hsz7 hbe0
      go_wp2_with fail
      go_loopw [8, 25] (fun v t wr => ∃ j : Nat, j ≤ 8 ∧ t = .int .i64 (j : Int) ∧ OwnQ 5 wr (g7 + 1) v (nm ++ [0] ++ (Hm.be num).take j) ∧ Later w7 wr) (fun _ t _ => 8 - (intOf t).toNat)
      case atStart => exact ⟨0, by omega, rfl, by rw [HB0.out]; exact hown1, hLc⟩
      case round =>
        obtain ⟨j, hj, rfl, hown, hL⟩ := hrel
        clear hown1 hLc HB0
        have hwr7 : g7 + 1 ≤ wr.heap.size := by have := hL.size; have := HS7.out; omega
        by_cases hlj : j < 8
        · have hstep := hm_be_step num j hlj
          have hc7 : wr.cell? ⟨g7, 1, none⟩ = some (.int .u64 (num : Int)) := ((hrow7.later hL).cell 1).trans rfl
          have hnext : nm ++ [0] ++ (Hm.be num).take (j + 1) = nm ++ [0] ++ (Hm.be num).take j ++ [UInt8.ofNat (num / 2 ^ (56 - 8 * j))] := by rw [hstep]; simp
          have hln : (nm ++ [0] ++ (Hm.be num).take j).length ≤ 1000000000 := by
            simp only [List.length_append, List.length_take, List.length_cons, List.length_nil]
            omega
          have HNX := Lib.hid hnext
          generalize nm ++ [0] ++ (Hm.be num).take j = acc at *
          have e0 : 0 ≤ 56 - 8 * (j : Int) := by omega
          clear hstep hnext
          go_wp2_with (first
            | (at_builtin; refine wpList_append_byteQ rfl (.tmp 28) (.tmp 36) 22 rfl (g7 + 1) 5 Try.underlying22 byteInfo8 _ acc rfl (hown.below (below_new wr _)) (by simp only [World.size_alloc]; omega) wr.heap.size (UInt8.ofNat (num / 2 ^ (56 - 8 * j))) 1 rfl ?hz hln ?_; rotate_left; intro v2 w2 hown2 hg2)
            | fail)
          case hz =>
            rw [be_byte]
            exact ((Row.new wr _ _).cell 0).trans rfl
          have hg2' : (wr.alloc (.cells #[.int .u8 ((num : Int) / 2 ^ (56 - 8 * j) % 256)] 5)).grownBy w2 u8.ownBlock := hg2
          have hL2 : Later w7 w2 := Below.grown (hL.alloc _) hg2' (by have := hL.size; simp only [World.size_alloc]; omega) (fun j e => by have := (hown.at_ j e).1; have := HS7.out; omega)
          go_roundw
          case rel => exact ⟨j + 1, by omega, by go_num, by rw [HNX.out]; exact hown2, hL2⟩
          case measure => simp [intOf]; omega
        · obtain rfl : j = 8 := by omega
          rw [List.take_of_length_le (by rw [Hm.be_len]; omega), ← HLAB.out] at hown
          obtain ⟨gq, cq, rfl, hq1, hq2, hq3, hrq⟩ := hown.slice
          have hLw : Later w6 wr := hL7.step hL
          have hll : (Hm.label ss[k]).length ≤ 1000000 := by
            rw [HLAB.out]
            simp only [List.length_append, List.length_cons, List.length_nil, Hm.be_len]
            omega
          generalize hlab : Hm.label ss[k] = lab at *
          have hcvs := run_string_rd (P := Try.prog) wr 22 9 5 (some ⟨gq, 0, none⟩) lab.length cq lab Try.underlying22 Try.underlying5 Try.underlying9 rfl hrq
          have hex := expand_any S L.length c L lab 32 wr rfl hcl hcM hlS hll (hrS.later hLw) (by decide)
          have hel := Hm.expand_len L lab 32
          obtain ⟨E, hE⟩ : ∃ y, Hm.expand L lab 32 = y := ⟨_, rfl⟩
          rw [hE] at hex hel HDN HCH
          have HEL := Lib.hid hel
          have hr5w := hr5k.later hLw
          have hr4w := hr4k.later hLw
          have hbw := hbk.trans (hLw.below.mono hbs)
          clear hE hel hlab HLAB hown hrq hL hL7 hrow7 hc1 hc2 hr5k hr4k
          go_upto_region 12 with (first
            | (go_at_call 13; refine hex.mono ?_; clear hex; rintro e w9 ⟨v9, rfl, hown9, hb9⟩)
            | fail)
          obtain ⟨A9, c9, rfl, h91, h92, h9r⟩ := hown9.slice
          rw [HEL.out] at h91 ⊢
          obtain ⟨b9, o9, rfl, _⟩ := h9r.at_ (k := 0) (by rw [HEL.out]; decide)
          have hL9 : Later wr w9 := hb9
          have hb9n : b9 ≠ g5 := by have := (hown9.at_ b9 rfl).1; have := hr5w.lt; omega
          have hr59 := hr5w.later hL9
          have hr49 := hr4w.later hL9
          have hb9' := hbw.trans (hL9.below.mono hbw.size)
          obtain ⟨wA, hstA, hrA, hgA⟩ := storeH (a := C) (b := E) hCl (by rw [HEL.out]; omega) hr59
          unfold maxLen at h92
          clear hr5w hr4w hb9 hown9
          go_wp2_with (first
            | (refine wpList_arr rfl 25 (.tmp 46) rfl (.slice (some ⟨b9, o9, none⟩) 32 c9) rfl (run_arr32 _) ?_)
            | (refine wpList_load rfl 25 (.tmp 47) rfl (.pointer (some ⟨b9, o9, none⟩)) rfl (load_rdH HEL.out h9r) ?_)
            | (refine wpList_store rfl 25 (.tmp 5) (.tmp 48) rfl (.pointer (some ⟨g5, 0, none⟩)) (.agg (hC E)) rfl rfl hstA ?_)
            | fail)
          have hrdA := h9r.grown hgA (fun b' o' e _ => by injection e with e; injection e with e1 e2; subst e1; intro h; injection h with h; exact hb9n h)
          have hr4A := hr49.grown hgA (by intro e; injection e with e; exact hg45 e)
          have hbA := hb9'.grown hgA hb9'.size (fun j e => by cases e; exact hg5w)
          go_roundw
          case rel => exact ⟨k + 1, by omega, by go_num, ⟨some ⟨b9, o9, none⟩, c9, by rw [HDN.out, HEL.out], by rw [HDN.out, HEL.out]; exact h91, h92, by rw [HDN.out]; exact hrdA, by rw [HDN.out, HEL.out]; decide⟩, by rw [HCH.out]; exact hrA, hr4A, hbA⟩
          case measure => simp [intOf]; omega
    · obtain rfl : k = m := by omega
      have htk : ss.take k = ss := List.take_of_length_le (by rw [HM.out]; omega)
      rw [htk] at hr5k
      have hchl := Hm.child_len key ss
      obtain ⟨C, hC⟩ : ∃ y, Hm.child key ss = y := ⟨_, rfl⟩
      rw [hC] at hr5k hchl
      have HCE := Lib.hid hC
      have HCL := Lib.hid hchl
      obtain ⟨wB, hstB, hrB, hgB⟩ := storeH (a := []) (b := C) (by simp) (by rw [hchl]; omega) hr4k
      clear hC hchl htk hst
      go_wp2_with (first
        | (refine wpList_load rfl 25 (.tmp 5) rfl (.pointer (some ⟨g5, 0, none⟩)) rfl (loadH HCL.out hr5k) ?_)
        | (refine wpList_store rfl 25 (.tmp 4) (.tmp 51) rfl (.pointer (some ⟨g4, 0, none⟩)) (.agg (hC C)) rfl rfl hstB ?_)
        | fail)
      refine bodyPost_ret (results_cell_row rfl _ _ g4 25 (hC C) (0, 0) _ rfl hrB Try.underlying25 rfl (by rw [hC_size _ (by rw [HCL.out]; omega)]; exact infoH)) rfl ⟨by rw [HCE.out], hbk.grown hgB hbs (fun j e => by cases e; exact hg4w)⟩
end Go.Proofs.Ytbjclmfhmdalkaa
