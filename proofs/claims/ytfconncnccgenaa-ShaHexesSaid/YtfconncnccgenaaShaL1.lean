/- ShaHexes: the walk. -/
import Derived.Test.YtfconncnccgenaaShaT10
import Derived.Lib.ConvBytes
import Derived.Stop.BytesEq
set_option linter.unusedVariables false
set_option linter.unusedSimpArgs false
namespace Go.Proofs.Ytfconncnccgenaa
open Go.RowKit
/-- A row of bytes that a string's conversion makes: it reads as the list, and no cell of it is frozen. -/
def Fresh (w : World) (g : Nat) (l : List UInt8) : Prop := ∃ cs n, w.heap[g]? = some (.cells cs 5 (n, n + 1)) ∧ l.length ≤ n ∧ n = cs.size ∧ ∀ i (h : i < l.length), cs[i]? = some (byteV l[i])
theorem Fresh.lt {w : World} {g : Nat} {l : List UInt8} (h : Fresh w g l) : g < w.heap.size := by
  obtain ⟨cs, n, h1, _⟩ := h
  exact (Array.getElem?_eq_some_iff.1 h1).1
theorem Fresh.rd {w : World} {g : Nat} {l : List UInt8} (h : Fresh w g l) : Rd w (some ⟨g, 0, none⟩) l := fun _ => by
  obtain ⟨cs, n, h1, h2, h3, h4⟩ := h
  refine ⟨_, _, rfl, fun i hi => ?_⟩
  rw [cell_of_row w g (0 + i) cs _ _ h1, Nat.zero_add]
  exact h4 i hi
theorem Fresh.cell {w : World} {g : Nat} {l : List UInt8} (h : Fresh w g l) (i : Nat) (hi : i < l.length) : w.cell? ⟨g, i, none⟩ = some (byteV l[i]) := by
  obtain ⟨cs, n, h1, h2, h3, h4⟩ := h
  rw [cell_of_row w g i cs _ _ h1]
  exact h4 i hi
theorem Fresh.frozen {w : World} {g : Nat} {l : List UInt8} (h : Fresh w g l) (i : Nat) (hi : i < l.length) : w.frozen? ⟨g, i, none⟩ = false := by
  obtain ⟨cs, n, h1, h2, h3, h4⟩ := h
  simp [World.frozen?, h1]
  omega
theorem Fresh.set {w : World} {g : Nat} {l : List UInt8} (h : Fresh w g l) (i : Nat) (x : UInt8) : Fresh (w.setCell ⟨g, i, none⟩ (byteV x)) g (l.set i x) := by
  obtain ⟨cs, n, h1, h2, h3, h4⟩ := h
  refine ⟨cs.setIfInBounds i (byteV x), n, ?_, by simpa using h2, by simpa using h3, fun j hj => ?_⟩
  · simp [World.setCell, Array.getElem?_modify, h1]
  · have hj' : j < l.length := by simpa using hj
    by_cases e : i = j
    · subst e
      have hi : i < cs.size := by omega
      rw [Array.getElem?_setIfInBounds_self_of_lt hi, List.getElem_set_self]
    · rw [Array.getElem?_setIfInBounds_ne e, h4 j hj', List.getElem_set_ne e]
theorem conv_fresh (w : World) (l : List UInt8) : ∃ W cap, (convert 9 23 (.string ⟨l.toArray⟩)).run Try.prog w = .ok (.slice (some ⟨w.heap.size, 0, none⟩) l.length cap) W ∧ Fresh W w.heap.size l ∧ Below w.heap.size w W ∧ W.heap.size = w.heap.size + 1 := by
  refine ⟨_, _, Lib.run_convert_string_bytes (P := Try.prog) w 9 23 5 ⟨l.toArray⟩ Try.underlying9 Try.underlying23 Try.underlying5, ⟨_, _, Lib.bytesWorld_at_new _ _ _, ?_, rfl, ?_⟩, ?_, Lib.bytesWorld_size _ _ _⟩
  · simp [Lib.bytesCells]
  · intro i hi
    simp [Lib.bytesCells, Array.getElem?_append, hi]
  · exact ⟨rfl, rfl, rfl, by rw [Lib.bytesWorld_size]; omega, fun b hb => Lib.bytesWorld_at_old _ _ _ b hb⟩
theorem op_build {P : Program} {Q : Exit → Act → World → Prop} {o : Oper} {a : Act} {W : World} {R : Value → World → Prop} {t : TypeId} {parts : Array (Nat × Operand)} {vs : Array (Nat × Value)} {v : Value} (ho : o.op = .build t parts) (hp : (parts.map fun (i, x) => (i, a.eval x)) = vs) (hr : (Instr.build t vs).run P W = .ok v W) (h : R v W) : o.wp P a W (fun a' W' => ∃ v, a' = a.put o.dst v ∧ Later W W' ∧ R v W') Q := by
  refine op_value (v := v) (W' := W) ?_ (Later.refl _) h
  unfold execOp
  simp only [ho, hp, hr, Sem.run_bind, Sem.run_pure, Result.andThen_ok]
/-- A new variable that holds these cells. -/
def Pr.var (B : Nat) (t : TypeId) (cs : Array Value) : Pr := ⟨fun v W => ∃ g, v = .pointer (some ⟨g, 0, none⟩) ∧ B ≤ g ∧ Row W g t cs, fun _ _ _ ⟨g, e, hB, h⟩ hL => ⟨g, e, hB, h.later hL⟩⟩
def st0 : Value := .string ⟨#[]⟩
theorem alloc3 (w : World) : (Instr.alloc 31 true (.tuple #[])).run Try.prog w = .ok (.pointer (some ⟨w.heap.size, 0, none⟩)) (w.alloc (.cells #[st0, st0, st0] 31)) := by kernel_rfl
theorem build3 (a b c : ByteArray) (w : World) : (Instr.build 31 #[(0, .string a), (1, .string b), (2, .string c)]).run Try.prog w = .ok (.agg #[.string a, .string b, .string c]) w := by kernel_rfl
theorem info3 : (Try.prog.info? 31).map (·.size) = some 3 := by kernel_rfl
theorem store3 {w : World} {g : Nat} (a b c : ByteArray) (hr : Row w g 31 #[st0, st0, st0]) : ∃ w', (Instr.storeAt 31 (.pointer (some ⟨g, 0, none⟩)) (.agg #[.string a, .string b, .string c])).run Try.prog w = .ok () w' ∧ Row w' g 31 #[.string a, .string b, .string c] ∧ w.grownBy w' (some g) := by
  refine ⟨_, run_store_row hr #[.string a, .string b, .string c] info3 (Nat.le_refl 3) (by simp [Value.oneCell']), ?_, grown_setCells _ _ _⟩
  have := row_setCells [.string a, .string b, .string c] 0 w _ hr
  exact this
theorem eqg_s {x y : Operand} {a b : ByteArray} {W : World} : (eqGuard .eql 9 x y (.string a) (.string b)).run Try.prog W = .ok () W := by kernel_rfl
theorem eql_s {a : ByteArray} {W : World} : (binOp .eql 9 (.string a) (.string a)).run Try.prog W = .ok (.bool true) W := by
  go_simp
theorem idx3 {g : Nat} {W : World} : (Instr.indexAt 31 (.pointer (some ⟨g, 0, none⟩)) (.int .i64 2)).run Try.prog W = .ok (.pointer (some ⟨g, 2, none⟩)) W := by go_simp
theorem loadStr {g o : Nat} {X : ByteArray} {W : World} (hc : W.cell? ⟨g, o, none⟩ = some (.string X)) : (Instr.loadAt 9 (.pointer (some ⟨g, o, none⟩))).run Try.prog W = .ok (.string X) W := by go_simp
theorem padH (b : List UInt8) (hb : b.length ≤ 32) : ∃ B : List UInt8, B.length = 32 ∧ hC b = hC B ∧ hC B = (B.map Extern.Stop.cell).toArray := by
  refine ⟨b ++ Sha.zeros (32 - b.length), by simp [Sha.zeros]; omega, ?_, ?_⟩
  · unfold hC
    simp [Sha.zeros, hb]
    try rfl
  · unfold hC
    simp [Sha.zeros, hb]
    try rfl
theorem neqH (B : List UInt8) (h1 : B.length = 32) (h2 : hC B = (B.map Extern.Stop.cell).toArray) (w : World) : (binOp .neq 26 (.agg (hC B)) (.agg (hC B))).run Try.prog w = .ok (.bool false) w := by
  rw [run_neq_struct, h2, run_equalIn_bytes w 9998 26 5 32 Try.underlying26 Try.underlying5 (fun w => by kernel_rfl) B B h1 h1]
  simp
theorem eqgH (b : BinOp) (x y : Operand) (xs ys : Array Value) (w : World) : (eqGuard b 26 x y (.agg xs) (.agg ys)).run Try.prog w = .ok () w := run_eqGuard_agg w b _ x y xs ys (by kernel_rfl)
set_option maxRecDepth 100000 in
set_option maxHeartbeats 1000000 in
theorem shaHexes_main (s : ByteArray) (h : List UInt8) (at_ : Nat) (sb : UInt8) (w : World) (hl : h.length = 32) (hs : s.size ≤ 500) (hat : at_ ≤ 63) :
    Calls Try.prog 4 #[.string s, .agg (hC h), .int .i64 (at_ : Int), .int .u8 (sb.toNat : Int)] w fun e w' => e = .returned (.bool true) ∧ Below w.heap.size w w' := by
  have hrow := Row.new w 26 (hC h)
  have hb0 := below_new w (.cells (hC h) 26)
  have hld := loadH hl hrow
  have hcall := refText_any h hl (w.alloc (.cells (hC h) 26))
  have htl : (textOf h).length = 64 := by rw [textOf_len, hl]
  obtain ⟨T, hT⟩ : ∃ s, textOf h = s := ⟨_, rfl⟩
  rw [hT] at hcall htl
  have HT := Lib.hid hT
  clear hT
  have hd1 : decide (500 < s.size) = false := by simp; omega
  have hd1' : decide ((500 : Int) < (s.size : Int)) = false := by simp; omega
  have hd2 : decide ((at_ : Int) < 0) = false := by simp
  have hd3 : decide ((63 : Int) < (at_ : Int)) = false := by simp; omega
  go_enter Try.func4, Try.ntmps4
  go_upto_region 3 with (first
    | (refine wpList_box rfl 26 (.tmp 1) rfl (.agg (hC h)) rfl (boxH h hl _) ?_)
    | fail)
  go_upto_region 4 with (first
    | (refine wpList_load rfl 26 (.tmp 5) rfl (.pointer (some ⟨w.heap.size, 0, none⟩)) rfl hld ?_)
    | (go_at_call 14; refine hcall.mono ?_; clear hcall; rintro e w1 ⟨rfl, hb1⟩; obtain ⟨W2, cap, hcv, hfr, hb2, hsz2⟩ := conv_fresh w1 T)
    | fail)
  have hx := hfr.cell at_ (by omega)
  have hfz := hfr.frozen at_ (by omega)
  have hat64 : decide ((at_ : Int) < 64) = true := by simp; omega
  have hfr3 := hfr.set at_ sb
  have hb1' : Below w.heap.size w w1 := hb0.trans (hb1.mono hb0.size)
  have hrow1 : Row w1 w.heap.size 26 (hC h) := hrow.belowAll hb1
  have hb2' : Below w.heap.size w W2 := hb1'.trans (hb2.mono hb1'.size)
  have hrow2 : Row W2 w.heap.size 26 (hC h) := hrow1.belowAll hb2
  have hb3 := hb2'.setCell (p := ⟨w1.heap.size, at_, none⟩) hb1'.size (byteV sb)
  have hrow3 : Row (W2.setCell ⟨w1.heap.size, at_, none⟩ (byteV sb)) w.heap.size 26 (hC h) := hrow2.far (by have := hrow1.lt; simp; omega) _
  clear hrow hb0 hld hb1 hcv hfr hb2 hsz2 hb1' hrow1 hb2' hrow2
  go_upto_region 5 with fail
  obtain ⟨g2, hg2⟩ : ∃ y, w1.heap.size = y := ⟨_, rfl⟩
  clear hx hfz
  rw [hg2] at hfr3 hb3 hrow3 ⊢
  clear hg2
  have hbv : byteV sb = .int .u8 (sb.toNat : Int) := rfl
  rw [hbv] at hfr3 hb3 hrow3
  generalize W2.setCell ⟨g2, at_, none⟩ (.int .u8 (sb.toNat : Int)) = W3 at *
  have htl2 : (T.set at_ sb).length = 64 := by simpa using htl
  have hrd3 := hfr3.rd
  have hbs := hb3.size
  generalize T.set at_ sb = T2 at *
  clear hfr3 hbv
  rw [← HT.out]
  clear HT
  refine (wpIn_wide (n := 0)).1 ?_
  refine wpIn_region_last wide_wide [Pr.eq (.string s), Pr.eq (.slice (some ⟨g2, 0, none⟩) 64 cap), Pr.eq (.string ⟨T2.toArray⟩), Pr.eq (.agg (hC h)), Pr.eq (.string ⟨(textOf h).toArray⟩), Pr.eq (.agg #[.string s, .string ⟨T2.toArray⟩, .string ⟨(textOf h).toArray⟩]), Pr.var w.heap.size 31 #[st0, st0, st0]] (by kernel_rfl) (by kernel_rfl) (by kernel_rfl) (by kernel_rfl) (by kernel_rfl) (by kernel_rfl) rfl ⟨?_, ?_, ?_, ?_, ?_, ?_, ?_, trivial⟩ ?_
  · exact fun ac W hL he => stepOk_want rfl (op_move rfl (he.keep (.tmp 0) (by kernel_rfl)))
  · exact fun ac W hL he => stepOk_want rfl (op_move rfl (he.keep (.tmp 9) (by kernel_rfl)))
  · exact fun ac W hL he => stepOk_want rfl (op_convert rfl (he.get 1 36 (by kernel_rfl) rfl) (run_string_rd W 23 9 5 _ 64 cap T2 Try.underlying23 Try.underlying5 Try.underlying9 htl2 (hrd3.below hL)) (Later.refl _) rfl)
  · exact fun ac W hL he => stepOk_want rfl (op_load rfl (he.keep (.tmp 5) (by kernel_rfl)) (loadH hl (hrow3.later hL)) rfl)
  · intro ac W hL he; refine stepOk_want rfl ?_; have e0 : ac.eval (.tmp 38) = (.agg (hC h)) := (he.get 3 38 (by kernel_rfl) rfl); exact op_callF (vs := #[.agg (hC h)]) rfl (by simp only [List.map_toArray, List.map_cons, List.map_nil, e0]) (enters_of Try.func14 (by kernel_rfl) rfl) ((refText_any h hl W).mono fun e W' ⟨he', hb⟩ => ⟨_, he', hb, rfl⟩)
  · intro ac W hL he; refine stepOk_want rfl ?_; have e0 : ac.eval (.tmp 35) = (.string s) := (he.get 0 35 (by kernel_rfl) rfl); have e1 : ac.eval (.tmp 37) = (.string ⟨T2.toArray⟩) := (he.get 2 37 (by kernel_rfl) rfl); have e2 : ac.eval (.tmp 39) = (.string ⟨(textOf h).toArray⟩) := (he.get 4 39 (by kernel_rfl) rfl); exact op_build (vs := #[(0, .string s), (1, .string ⟨T2.toArray⟩), (2, .string ⟨(textOf h).toArray⟩)]) rfl (by simp only [List.map_toArray, List.map_cons, List.map_nil, e0, e1, e2]) (build3 _ _ _ _) rfl
  · exact fun ac W hL he => stepOk_want rfl (op_alloc rfl (alloc3 W) ((Later.refl W).alloc _) ⟨_, rfl, Nat.le_trans hbs hL.size, Row.new W _ _⟩)
  · intro xs W hL hx hk hg
    have e1 := hg 6 10 (by decide) (by kernel_rfl)
    have e2 := hg 5 40 (by decide) (by kernel_rfl)
    obtain ⟨g, v6, hBg, hr6⟩ : ∃ g, xs 6 = .pointer (some ⟨g, 0, none⟩) ∧ w.heap.size ≤ g ∧ Row W g 31 #[st0, st0, st0] := hx 6 (by decide)
    have v5 : xs 5 = .agg #[.string s, .string ⟨T2.toArray⟩, .string ⟨(textOf h).toArray⟩] := hx 5 (by decide)
    rw [v6] at e1
    rw [v5] at e2
    obtain ⟨w7, hst, hr7, hg7⟩ := store3 s ⟨T2.toArray⟩ ⟨(textOf h).toArray⟩ hr6
    have hbW : Below w.heap.size w W := hb3.trans (hL.mono hbs)
    have hb7 := hbW.grown hg7 hbW.size (fun j e => by cases e; exact hBg)
    have hrowW := hrow3.later hL
    have hgne : w.heap.size ≠ g := fun e => by
      rw [← e] at hr6
      have h1 : W.heap[w.heap.size]? = some (.cells (hC h) 26) := hrowW
      have h2 : W.heap[w.heap.size]? = some (.cells #[st0, st0, st0] 31) := hr6
      rw [h1] at h2
      injection h2 with h2
      injection h2 with _ h2
      exact absurd h2 (by decide)
    have hrow7 := hrowW.grown hg7 (by intro e; injection e with e; exact hgne e)
    refine last_store rfl rfl e1 e2 hst ?_
    have x0 := hx 0 (by decide)
    clear hx hk hg e1 e2 hst hrow3 hb3 hbs hrowW hbW hg7 hr6 hL hrd3
    simp only [initL, lastL, putL, Nat.reduceAdd, Act.put, List.setIfInBounds_toArray, List.set_cons_succ, List.set_cons_zero, v6, v5]
    clear v5 v6
    generalize xs 0 = x0 at *
    go_wp2_with fail
    go_loopw [11] (fun t wr => ∃ k : Nat, k ≤ 3 ∧ t = .int .i64 k ∧ Row wr g 31 #[.string s, .string ⟨T2.toArray⟩, .string ⟨(textOf h).toArray⟩] ∧ Row wr w.heap.size 26 (hC h) ∧ Below w.heap.size w wr) (fun t _ => 3 - (intOf t).toNat)
    case atStart => exact ⟨0, by omega, rfl, hr7, hrow7, hb7⟩
    case round =>
      obtain ⟨k, hk, rfl, hr, hrow, hb⟩ := hrel
      clear hr7 hrow7 hb7
      by_cases hlt : k < 3
      · obtain ⟨X, hXc, hXs⟩ : ∃ X : ByteArray, (#[.string s, .string ⟨T2.toArray⟩, .string ⟨(textOf h).toArray⟩] : Array Value)[k]? = some (.string X) ∧ X.size ≤ 1000000 := by
          have hk3 : k = 0 ∨ k = 1 ∨ k = 2 := by omega
          rcases hk3 with rfl | rfl | rfl
          · exact ⟨_, rfl, by omega⟩
          · exact ⟨_, rfl, by show T2.toArray.size ≤ _; simp; omega⟩
          · exact ⟨_, rfl, by show (textOf h).toArray.size ≤ _; simp [textOf_len, hl]⟩
        have hcx : wr.cell? ⟨g, k, none⟩ = some (.string X) := (hr.cell k).trans hXc
        have hbs := hb.size
        obtain ⟨B, hB1, hB2, hB3⟩ := padH (parseB X.data.toList) (parseB_len _)
        have hp1 := fun w => parse_any X w hXs
        have hp2 := fun w => refParse_any X w hXs
        obtain ⟨E, hE⟩ : ∃ y, parseE X.data.toList = y := ⟨_, rfl⟩
        rw [hB2, hE] at hp1 hp2
        have HB3 := Lib.hid hB3
        clear hXc hB2 hE hXs hB3
        go_upto_region 10 with (first
          | (go_at_call 15; refine (hp1 _).mono ?_; clear hp1; rintro e w1 ⟨rfl, hb1⟩; have hrA := hr.belowAll hb1; have hrowA := hrow.belowAll hb1; have hbA := hb.trans (hb1.mono hb.size); obtain ⟨wA, hst, hrA1, hgA⟩ := storeH (a := []) (b := B) (by simp) (by omega) (Row.new w1 26 (hC [])))
          | (with_reducible refine wpList_alloc rfl 26 rfl (allocH _) ?_)
          | (refine wpList_store rfl 26 (.tmp 12) (.tmp 50) rfl (.pointer (some ⟨w1.heap.size, 0, none⟩)) (.agg (hC B)) rfl rfl hst ?_)
          | fail)
        obtain ⟨gA, hgA'⟩ : ∃ y, w1.heap.size = y := ⟨_, rfl⟩
        rw [hgA'] at hrA1 hgA ⊢
        have hgw : w.heap.size ≤ gA := by rw [← hgA']; exact hbA.size
        have hne1 : g ≠ gA := by have := hrA.lt; omega
        have hne2 : w.heap.size ≠ gA := by have := hrowA.lt; omega
        have hbA' : Below w.heap.size w wA := (hbA.alloc hbA.size _).grown hgA (by have := hbA.size; simp only [World.size_alloc]; omega) (fun j e => by cases e; exact hgw)
        have hrA' := (hrA.alloc (.cells (hC []) 26)).grown hgA (by intro e; injection e with e; exact hne1 e)
        have hrowA' := (hrowA.alloc (.cells (hC []) 26)).grown hgA (by intro e; injection e with e; exact hne2 e)
        have hcxA : wA.cell? ⟨g, k, none⟩ = some (.string X) := (hrA'.cell k).trans ((hr.cell k).symm.trans hcx)
        clear hst hgA hgA' hrA hrowA hbA hcx hr hrow hb hb1
        go_upto_region 11 with (first
          | (go_at_call 16; refine (hp2 _).mono ?_; clear hp2; rintro e w2 ⟨rfl, hb2⟩; have hrB := hrA'.belowAll hb2; have hrowB := hrowA'.belowAll hb2; have hrA2 := hrA1.belowAll hb2; have hbB := hbA'.trans (hb2.mono hbA'.size); obtain ⟨wB, hst, hrB1, hgB⟩ := storeH (a := []) (b := B) (by simp) (by omega) (Row.new w2 26 (hC [])))
          | (with_reducible refine wpList_alloc rfl 26 rfl (allocH _) ?_)
          | (refine wpList_store rfl 26 (.tmp 14) (.tmp 57) rfl (.pointer (some ⟨w2.heap.size, 0, none⟩)) (.agg (hC B)) rfl rfl hst ?_)
          | fail)
        obtain ⟨gB, hgB'⟩ : ∃ y, w2.heap.size = y := ⟨_, rfl⟩
        rw [hgB'] at hrB1 hgB ⊢
        have hgw2 : w.heap.size ≤ gB := by rw [← hgB']; exact hbB.size
        have hne3 : g ≠ gB := by have := hrB.lt; omega
        have hne4 : w.heap.size ≠ gB := by have := hrowB.lt; omega
        have hne5 : gA ≠ gB := by have := hrA2.lt; omega
        have hbB' : Below w.heap.size w wB := (hbB.alloc hbB.size _).grown hgB (by have := hbB.size; simp only [World.size_alloc]; omega) (fun j e => by cases e; exact hgw2)
        have hrB' := (hrB.alloc (.cells (hC []) 26)).grown hgB (by intro e; injection e with e; exact hne3 e)
        have hrowB' := (hrowB.alloc (.cells (hC []) 26)).grown hgB (by intro e; injection e with e; exact hne4 e)
        have hrA3 := (hrA2.alloc (.cells (hC []) 26)).grown hgB (by intro e; injection e with e; exact hne5 e)
        have hld1 := loadH hB1 hrA3
        have hld2 := loadH hB1 hrB1
        clear hst hgB hgB' hrB hrowB hbB hcxA hrA' hrowA' hbA' hb2 hrA2 hrA1
        go_wp2_with (first
          | (refine wpList_load rfl 26 (.tmp 12) rfl (.pointer (some ⟨gA, 0, none⟩)) rfl hld1 ?_)
          | (refine wpList_load rfl 26 (.tmp 14) rfl (.pointer (some ⟨gB, 0, none⟩)) rfl hld2 ?_)
          | (refine wpList_binG (by rfl) .neq 26 _ (.tmp 59) (.tmp 60) rfl (.agg (hC B)) (.agg (hC B)) rfl rfl (eqgH _ _ _ _ _ _) (neqH B hB1 HB3.out _) ?_)
          | (go_at_call 17; refine (num_any _ _).mono ?_; rintro e wn ⟨rfl, rfl⟩)
          | fail)
        go_roundw
        case rel => exact ⟨k + 1, by omega, by go_num, hrB', hrowB', hbB'⟩
        case measure => simp [intOf]; omega
      · obtain rfl : k = 3 := by omega
        have hbs := hb.size
        have hcx : wr.cell? ⟨g, 2, none⟩ = some (.string ⟨(textOf h).toArray⟩) := hr.cell 2
        clear hr
        go_upto_region 13 with fail
        refine (wpIn_wide (n := 0)).1 ?_
        refine wpIn_region_vals wide_wide [Pr.eq (.agg (hC h)), Pr.eq (.string ⟨(textOf h).toArray⟩), Pr.eq (.pointer (some ⟨g, 2, none⟩)), Pr.eq (.string ⟨(textOf h).toArray⟩), Pr.eq (.bool true), Pr.eq (.bool true), Pr.eq (.bool true), Pr.eq (.bool true), Pr.eq (.bool true)] (by kernel_rfl) (by kernel_rfl) (by kernel_rfl) (by kernel_rfl) (by kernel_rfl) ⟨?_, ?_, ?_, ?_, ?_, ?_, ?_, ?_, ?_, trivial⟩ ?_
        · exact fun ac W hL he => stepOk_want rfl (op_load rfl (he.keep (.tmp 5) (by kernel_rfl)) (loadH hl (hrow.later hL)) rfl)
        · intro ac W hL he; refine stepOk_want rfl ?_; have e0 : ac.eval (.tmp 68) = (.agg (hC h)) := (he.get 0 68 (by kernel_rfl) rfl); exact op_callF (vs := #[.agg (hC h)]) rfl (by simp only [List.map_toArray, List.map_cons, List.map_nil, e0]) (enters_of Try.func18 (by kernel_rfl) rfl) ((text_any h hl W).mono fun e W' ⟨he', hb⟩ => ⟨_, he', hb, rfl⟩)
        · exact fun ac W hL he => stepOk_want rfl (op_idx rfl (he.keep (.tmp 10) (by kernel_rfl)) rfl idx3 rfl)
        · exact fun ac W hL he => stepOk_want rfl (op_load rfl (he.get 2 70 (by kernel_rfl) rfl) (loadStr (hL.cell hcx)) rfl)
        · exact fun ac W hL he => stepOk_want rfl (op_binOp rfl (he.get 1 69 (by kernel_rfl) rfl) (he.get 3 71 (by kernel_rfl) rfl) eqg_s eql_s rfl)
        · exact fun ac W hL he => stepOk_want rfl (op_move rfl (he.get 4 72 (by kernel_rfl) rfl))
        · intro ac W hL he; refine stepOk_yes (j := 5) (t := 73) (b := true) rfl rfl (he.get 5 73 (by kernel_rfl) rfl) ?_; exact op_callF (vs := #[]) rfl (by simp) (enters_of Try.func9 (by kernel_rfl) rfl) ((works_yes W).mono fun e W' ⟨he', hb⟩ => ⟨_, he', hb, rfl⟩)
        · exact fun ac W hL he => stepOk_want rfl (op_pick (b := true) rfl (he.get 5 73 (by kernel_rfl) rfl) (he.get 6 74 (by kernel_rfl) rfl))
        · exact fun ac W hL he => stepOk_want rfl (op_assign rfl (he.get 7 75 (by kernel_rfl) rfl))
        · intro xs W hL hx
          have he8 : xs 8 = .bool true := hx 8 (by decide)
          have hb9 := hb.trans (hL.mono hbs)
          clear hx hrow hb hL hcx
          simp only [putL, Nat.reduceAdd, Act.put, List.setIfInBounds_toArray, List.set_cons_succ, List.set_cons_zero, he8]
          go_wp2_with fail
          go_ret
          exact ⟨rfl, hb9⟩
theorem shaHexes_out (s : ByteArray) (h : List UInt8) (at_ sg : Int) (w : World) (hl : h.length = 32) (hsg : 0 ≤ sg ∧ sg < 256) (hout : 500 < s.size ∨ at_ < 0 ∨ 63 < at_) :
    Calls Try.prog 4 #[.string s, .agg (hC h), .int .i64 at_, .int .u8 sg] w fun e w' => e = .returned (.bool true) ∧ Below w.heap.size w w' := by
  have hb0 := below_new w (.cells (hC h) 26)
  have hw := works_yes (w.alloc (.cells (hC h) 26))
  by_cases h1 : 500 < s.size
  · have hd1 : decide (500 < s.size) = true := by simpa using h1
    have hd1' : decide ((500 : Int) < (s.size : Int)) = true := by simp; omega
    go_enter Try.func4, Try.ntmps4
    go_wp2_with (first
      | (refine wpList_box rfl 26 (.tmp 1) rfl (.agg (hC h)) rfl (boxH h hl _) ?_)
      | (go_at_call 9; refine hw.mono ?_; clear hw; rintro e w1 ⟨rfl, hb1⟩)
      | fail)
    go_ret
    exact ⟨rfl, hb0.trans (hb1.mono hb0.size)⟩
  · have hd1 : decide (500 < s.size) = false := by simpa using h1
    have hd1' : decide ((500 : Int) < (s.size : Int)) = false := by simp; omega
    by_cases h2 : at_ < 0
    · have hd2 : decide (at_ < 0) = true := by simpa using h2
      go_enter Try.func4, Try.ntmps4
      go_wp2_with (first
        | (refine wpList_box rfl 26 (.tmp 1) rfl (.agg (hC h)) rfl (boxH h hl _) ?_)
        | (go_at_call 9; refine hw.mono ?_; clear hw; rintro e w1 ⟨rfl, hb1⟩)
        | fail)
      go_ret
      exact ⟨rfl, hb0.trans (hb1.mono hb0.size)⟩
    · have hd2 : decide (at_ < 0) = false := by simpa using h2
      have h3 : 63 < at_ := by omega
      have hd3 : decide (63 < at_) = true := by simpa using h3
      go_enter Try.func4, Try.ntmps4
      go_wp2_with (first
        | (refine wpList_box rfl 26 (.tmp 1) rfl (.agg (hC h)) rfl (boxH h hl _) ?_)
        | (go_at_call 9; refine hw.mono ?_; clear hw; rintro e w1 ⟨rfl, hb1⟩)
        | fail)
      go_ret
      exact ⟨rfl, hb0.trans (hb1.mono hb0.size)⟩
end Go.Proofs.Ytfconncnccgenaa
