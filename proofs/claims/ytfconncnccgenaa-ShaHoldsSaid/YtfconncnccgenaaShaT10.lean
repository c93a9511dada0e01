/- Walks: works. -/
import Derived.Test.YtfconncnccgenaaShaT9
set_option linter.unusedVariables false
set_option linter.unusedSimpArgs false
namespace Go.Proofs.Ytfconncnccgenaa
open Go.RowKit
section
variable {P : Program} {ops : Array Oper} {rest : List Oper} {o : Oper} {a : Act} {w : World} {Q : Exit → Act → World → Prop}
theorem wpList_on (hw : Region.wanted o (yielded ops a.tmps) = true) (h : ∀ K : Act → World → Prop, (∀ a w, wpList P ops Q rest a w → K a w) → o.wp P a w K Q) : wpList P ops Q (o :: rest) a w :=
  wpList_step fun K hK => by
    rw [if_pos hw]
    exact h K hK
theorem wpList_loadG (hw : Region.wanted o (yielded ops a.tmps) = true) (T : TypeId) (x : Operand) (ho : o.op = .load T x) (vx : Value) (hx : a.eval x = vx) {v : Value} {w' : World} (hr : (Instr.loadAt T vx).run P w = .ok v w')
    (h : wpList P ops Q rest (a.put o.dst v) w') : wpList P ops Q (o :: rest) a w :=
  wpList_on hw fun _ hK => by
    unfold Oper.wp execOp
    simp only [ho, Sem.run_bind, Sem.run_pure, Result.andThen_ok, hx, hr]
    exact hK _ _ h
theorem wpList_buildG (hw : Region.wanted o (yielded ops a.tmps) = true) (T : TypeId) (parts : Array (Nat × Operand)) (ho : o.op = .build T parts) (vs : Array (Nat × Value)) (hp : (parts.map fun (i, x) => (i, a.eval x)) = vs)
    {v : Value} {w' : World} (hr : (Instr.build T vs).run P w = .ok v w')
    (h : wpList P ops Q rest (a.put o.dst v) w') : wpList P ops Q (o :: rest) a w :=
  wpList_on hw fun _ hK => by
    unfold Oper.wp execOp
    simp only [ho, Sem.run_bind, Sem.run_pure, Result.andThen_ok, hp, hr]
    exact hK _ _ h
theorem wpList_binG (hw : Region.wanted o (yielded ops a.tmps) = true) (b : BinOp) (T T2 : TypeId) (x y : Operand) (ho : o.op = .binOp b T x y T2) (vx vy : Value) (hx : a.eval x = vx) (hy : a.eval y = vy) (hg : (eqGuard b T x y vx vy).run P w = .ok () w)
    {v : Value} {w' : World} (hr : (binOp b T vx vy).run P w = .ok v w')
    (h : wpList P ops Q rest (a.put o.dst v) w') : wpList P ops Q (o :: rest) a w :=
  wpList_on hw fun _ hK => by
    unfold Oper.wp execOp
    simp only [ho, Sem.run_bind, Sem.run_pure, Result.andThen_ok, hx, hy, hg, hr]
    exact hK _ _ h
end
theorem eqlHH (w : World) : (binOp .eql 26 (.agg (hC [])) (.agg (hC []))).run Try.prog w = .ok (.bool true) w := by kernel_rfl
theorem eqgHH (x y : Operand) (w : World) : (eqGuard .eql 26 x y (.agg (hC [])) (.agg (hC []))).run Try.prog w = .ok () w := by kernel_rfl
theorem parse_at (s : ByteArray) (l : List UInt8) (n : Int) (w : World) (hs : s.data.toList = l) (hl : l.length ≤ 1000) (hb : hC (parseB l) = hC []) (he : parseE l = n) :
    Calls Try.prog 15 #[.string s] w fun e w' => e = .returned (.tuple #[.agg (hC []), .int .i64 n]) ∧ Below w.heap.size w w' := by
  have h := parse_any s w (by rw [← hs] at hl; simp at hl; omega)
  rw [hs, hb, he] at h
  exact h
theorem sum_at (A : Option Addr) (n cap : Nat) (l h : List UInt8) (t : TypeId) (w : World) (hr : Rd w A l) (hn : l.length = n) (hc : n ≤ cap) (hm : cap ≤ 9223372036854775807) (hmax : n ≤ 1000000000) (hh : Sha.sum l = h) :
    Calls Try.prog 10 #[.slice (some ⟨w.heap.size, 0, none⟩) 1 1] (w.alloc (.cells #[.slice A n cap] t)) fun e w' => e = .returned (.agg (hC h)) ∧ Below (w.heap.size + 1) (w.alloc (.cells #[.slice A n cap] t)) w' := by
  have := shaSum_any (some ⟨w.heap.size, 0, none⟩) 1 1 [l] (w.alloc (.cells #[.slice A n cap] t)) rfl (by decide) (by simp only [List.flatten_cons, List.flatten_nil, List.append_nil]; omega) (RdsC.one t rfl hr hn hc hm)
  simp only [List.flatten_cons, List.flatten_nil, List.append_nil, hh, World.size_alloc] at this
  exact this
theorem sum_none (h : List UInt8) (w : World) (hh : Sha.sum [] = h) :
    Calls Try.prog 10 #[.slice none 0 0] w fun e w' => e = .returned (.agg (hC h)) ∧ Below w.heap.size w w' := by
  have := shaSum_any none 0 0 [] w rfl (by decide) (by simp) (RdsC.nil _ _)
  simp only [List.flatten_nil, hh] at this
  exact this
theorem twice_none (h : List UInt8) (w : World) (hh : Sha.sum (Sha.sum []) = h) :
    Calls Try.prog 12 #[.slice none 0 0] w fun e w' => e = .returned (.agg (hC h)) ∧ Below w.heap.size w w' := by
  have := shaTwice_any none 0 0 [] w rfl (by decide) (by simp) (RdsC.nil _ _)
  simp only [List.flatten_nil, hh] at this
  exact this
theorem newH {w w2 : World} {B : Nat} (hb : Below B w w2) (hB : B ≤ w2.heap.size) : ∃ w', (Instr.storeAt 26 (.pointer (some ⟨w2.heap.size, 0, none⟩)) (.agg (hC []))).run Try.prog (w2.alloc (.cells (hC []) 26)) = .ok () w' ∧ Row w' w2.heap.size 26 (hC []) ∧ Below B w w' ∧ Below w2.heap.size w2 w' := by
  obtain ⟨w', h1, h2, h3⟩ := storeH (a := []) (b := []) (by simp) (by simp) (Row.new w2 26 (hC []))
  refine ⟨w', h1, h2, (hb.alloc hB _).grown h3 (by simp only [World.size_alloc]; omega) (fun j e => by cases e; exact hB), (below_new w2 _).grown h3 (by simp only [World.size_alloc]; omega) (fun j e => by cases e; exact Nat.le_refl _)⟩
set_option maxRecDepth 100000 in
set_option maxHeartbeats 400000 in
theorem works_yes (w : World) :
    Calls Try.prog 9 #[] w fun e w' => e = .returned (.bool true) ∧ Below w.heap.size w w' := by
  obtain ⟨z64, hz64⟩ : ∃ y, List.replicate 64 (48 : UInt8) = y := ⟨_, rfl⟩
  obtain ⟨z63, hz63⟩ : ∃ y, List.replicate 63 (48 : UInt8) = y := ⟨_, rfl⟩
  obtain ⟨h64, e64⟩ := k_p64
  obtain ⟨h63, e63⟩ := k_p63
  obtain ⟨hA, eA⟩ := k_pA
  have l64 : z64.length = 64 := by rw [← hz64]; exact List.length_replicate
  have l63 : z63.length = 63 := by rw [← hz63]; exact List.length_replicate
  have hzeros64 := fun w => zeros_any 64 w (by decide)
  have hzeros63 := fun w => zeros_any 63 w (by decide)
  rw [hz64] at h64 e64 hzeros64
  rw [hz63] at h63 e63 hA eA hzeros63
  have c64 := fun w => parse_at ⟨z64.toArray⟩ z64 0 w rfl (by omega) (by rw [h64]; exact hC_zeros) e64
  have c63 := fun w => parse_at ⟨z63.toArray⟩ z63 110 w rfl (by omega) (by rw [h63]) e63
  clear hz64 hz63 h64 e64 h63 e63
  go_enter Try.func9, Try.ntmps9
  go_upto_region 2 with (first
    | (go_at_call 32; refine (hzeros64 _).mono ?_; rintro e w1 ⟨rfl, hb1⟩)
    | (go_at_call 15; refine (c64 _).mono ?_; rintro e w2 ⟨rfl, hb2⟩; have hb2' := hb1.trans (hb2.mono hb1.size); obtain ⟨wh, hst, hrowh, hbh, _⟩ := newH hb2' hb2'.size)
    | (with_reducible refine wpList_alloc rfl 26 rfl (allocH _) ?_)
    | (refine wpList_store rfl 26 (.tmp 1) (.tmp 10) rfl (.pointer (some ⟨w2.heap.size, 0, none⟩)) (.agg (hC [])) rfl rfl hst ?_)
    | fail)
  obtain ⟨gh, hgh⟩ : ∃ y, y = w2.heap.size := ⟨_, rfl⟩
  rw [← hgh] at hrowh ⊢
  clear hgh hst hb1 hb2 hb2' c64 hzeros64
  go_upto_region 3 with (first
    | (go_at_call 32; refine (hzeros63 _).mono ?_; rintro e w3 ⟨rfl, hb3⟩)
    | (go_at_call 15; refine (c63 _).mono ?_; rintro e w4 ⟨rfl, hb4⟩; have hb4' := hb3.trans (hb4.mono hb3.size); have hrow4 := hrowh.belowAll hb4'; have hb4'' := hbh.trans (hb4'.mono hbh.size); obtain ⟨wi, hst, _, hbi, hbj⟩ := newH hb4'' hb4''.size; have hrowi := hrow4.belowAll hbj)
    | (with_reducible refine wpList_alloc rfl 26 rfl (allocH _) ?_)
    | (refine wpList_store rfl 26 (.tmp 3) (.tmp 15) rfl (.pointer (some ⟨w4.heap.size, 0, none⟩)) (.agg (hC [])) rfl rfl hst ?_)
    | fail)
  obtain ⟨gi, hgi⟩ : ∃ y, y = w4.heap.size := ⟨_, rfl⟩
  rw [← hgi]
  clear hgi hst hb3 hb4 hb4' hb4'' hrow4 hbj hbh hrowh c63
  go_upto_region 4 with (first
    | (go_at_call 32; refine (hzeros63 _).mono ?_; rintro e w3 ⟨rfl, hb3⟩)
    | (go_at_call 15; refine (parse_at _ (65 :: z63) 110 _ ?_ (by simp only [List.length_cons]; omega) (by rw [hA]) eA).mono ?_; go_must (simp); rintro e w4 ⟨rfl, hb4⟩; have hb4' := hb3.trans (hb4.mono hb3.size); have hrow4 := hrowi.belowAll hb4'; have hb4'' := hbi.trans (hb4'.mono hbi.size); obtain ⟨wj, hst, _, hbj, hbk⟩ := newH hb4'' hb4''.size; have hrowj := hrow4.belowAll hbk)
    | (with_reducible refine wpList_alloc rfl 26 rfl (allocH _) ?_)
    | (refine wpList_store rfl 26 (.tmp 5) (.tmp 21) rfl (.pointer (some ⟨w4.heap.size, 0, none⟩)) (.agg (hC [])) rfl rfl hst ?_)
    | fail)
  obtain ⟨gj, hgj⟩ : ∃ y, y = w4.heap.size := ⟨_, rfl⟩
  rw [← hgj]
  clear hgj hst hb3 hb4 hb4' hb4'' hrow4 hbk hbi hrowi hA eA hzeros63
  obtain ⟨ha, hha⟩ : ∃ y, Sha.sum [97, 98, 99] = y := ⟨_, rfl⟩
  obtain ⟨hn, hhn⟩ : ∃ y, Sha.sum [] = y := ⟨_, rfl⟩
  obtain ⟨ht, hht⟩ : ∃ y, Sha.sum (Sha.sum []) = y := ⟨_, rfl⟩
  have la : ha.length = 32 := by rw [← hha]; exact Sha.sum_len _
  have ln : hn.length = 32 := by rw [← hhn]; exact Sha.sum_len _
  have lt : ht.length = 32 := by rw [← hht]; exact Sha.sum_len _
  have ka := k_abc
  have kn := k_nil
  have kt := k_twice
  rw [hha] at ka
  rw [hhn] at kn
  rw [hht] at kt
  have hbs := hbj.size
  have hrowj_lt := hrowj.lt
  have hb5 := hbj.alloc hbs (.cells #[.int .u8 97, .int .u8 98, .int .u8 99] 5 (3, 4))
  have hrow5 := hrowj.alloc (.cells #[.int .u8 97, .int .u8 98, .int .u8 99] 5 (3, 4))
  have hca := sum_at (some ⟨wj.heap.size, 0, none⟩) 3 3 [97, 98, 99] ha 23 (wj.alloc (.cells #[.int .u8 97, .int .u8 98, .int .u8 99] 5 (3, 4))) (Rd.mark wj 5 (3, 4) [97, 98, 99]) rfl (Nat.le_refl _) (by decide) (by decide) hha
  have hb6 := hb5.alloc hb5.size (.cells #[.slice (some ⟨wj.heap.size, 0, none⟩) 3 3] 23)
  have hrow6 := hrow5.alloc (.cells #[.slice (some ⟨wj.heap.size, 0, none⟩) 3 3] 23)
  have hcn := fun w => sum_none hn w hhn
  have hct := fun w => twice_none ht w hht
  have hsa := fun w => starts_yes ha la ⟨#[98, 97, 55, 56, 49, 54, 98, 102]⟩ w ka
  have hsn := fun w => starts_yes hn ln ⟨#[101, 51, 98, 48, 99, 52, 52, 50]⟩ w kn
  have hst := fun w => starts_yes ht lt ⟨#[53, 100, 102, 54, 101, 48, 101, 50]⟩ w kt
  simp only [World.size_alloc] at hca
  have kc := fun (w : World) (C : Array Value) (n c : Nat) => Lib.run_convert_bytes_const (P := Try.prog) w 23 5 C n c Try.underlying23 Try.underlying5
  clear hha hhn hht ka kn kt hb5 hrow5 hrowj hbj
  go_wp2_with (first
    | (refine wpList_buildSl rfl 51 1 _ rfl #[(0, .slice (some ⟨wj.heap.size, 0, none⟩) 3 3)] rfl (build1S _ _ _ _) ?_)
    | fail)
  refine hca.mono ?_
  rintro e w5 ⟨rfl, hb5⟩
  have hb5' := hb6.trans (hb5.mono (by omega))
  have hrow5 := hrow6.below hb5 (by have := hrowj_lt; omega)
  clear hca kc hb6 hrow6 hb5
  go_wp2_with fail
  refine (hsa _).mono ?_
  rintro e w6 ⟨rfl, hb6⟩
  have hb6' := hb5'.trans (hb6.mono hb5'.size)
  have hrow6 := hrow5.belowAll hb6
  clear hsa hb5' hrow5 hb6
  go_wp2_with fail
  refine (hcn _).mono ?_
  rintro e w7 ⟨rfl, hb7⟩
  have hb7' := hb6'.trans (hb7.mono hb6'.size)
  have hrow7 := hrow6.belowAll hb7
  clear hcn hb6' hrow6 hb7
  go_wp2_with fail
  refine (hsn _).mono ?_
  rintro e w8 ⟨rfl, hb8⟩
  have hb8' := hb7'.trans (hb8.mono hb7'.size)
  have hrow8 := hrow7.belowAll hb8
  clear hsn hb7' hrow7 hb8
  go_wp2_with fail
  refine (hct _).mono ?_
  rintro e w9 ⟨rfl, hb9⟩
  have hb9' := hb8'.trans (hb9.mono hb8'.size)
  have hrow9 := hrow8.belowAll hb9
  clear hct hb8' hrow8 hb9
  go_wp2_with fail
  refine (hst _).mono ?_
  rintro e wa ⟨rfl, hba⟩
  have hba' := hb9'.trans (hba.mono hb9'.size)
  have hrowa := hrow9.belowAll hba
  have hld := loadH (h := Sha.zeros 32) (by simp [Sha.zeros]) hrowa
  rw [hC_zeros] at hld
  clear hst hb9' hrow9 hba
  go_wp2_with (first
    | (refine wpList_loadG (by rfl) 26 (.tmp 1) rfl (.pointer (some ⟨gh, 0, none⟩)) rfl hld ?_)
    | (refine wpList_buildG (by rfl) 26 _ rfl #[] rfl (buildH0 _) ?_)
    | (refine wpList_binG (by rfl) .eql 26 _ (.tmp 37) (.tmp 38) rfl (.agg (hC [])) (.agg (hC [])) rfl rfl (eqgHH _ _ _) (eqlHH _) ?_)
    | (go_at_call 17; refine (num_any _ _).mono ?_; rintro e wn ⟨rfl, rfl⟩)
    | fail)
  go_ret
  exact ⟨rfl, hba'⟩
end Go.Proofs.Ytfconncnccgenaa
