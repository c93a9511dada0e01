/- Joined: Agg, WrH, AppZ2, Run, ShaE, OpenA, ShaCv, Order4, Order5, ShaN3, ShaN4, RangeD, Hm9. -/
import Derived.Test.YtcajhdmppfiaeaaGreatGb1
import Derived.Stop.BytesEq
import Derived.ShutString
import Derived.ChangeOld
import Derived.Lib.ConvBytes
set_option linter.unusedVariables false
set_option linter.unusedSimpArgs false
namespace Go.Proofs.YtcajhdmppfiaeaaGreat
open Go.RowKit
section
variable {P : Program}
theorem run_box_row (w : World) (T : TypeId) (cs : Array Value) (hi : (P.info? T).map (·.size) = some cs.size) : (Instr.box T (.agg cs)).run P w = .ok (.pointer (some ⟨w.heap.size, 0, none⟩)) (w.alloc (.cells cs T)) := by
  obtain ⟨i, hi0, hs⟩ := Option.map_eq_some_iff.1 hi
  simp [Instr.box, sizeOf, typeInfo, hi0, hs, go_sem]
theorem run_load_row {w : World} {g : Nat} {t T : TypeId} {cs : Array Value} {d : TypeDesc} (hr : Row w g t cs) (hu : P.underlying T = some d) (hd : d.isRow = true) (hi : (P.info? T).map (·.size) = some cs.size) : (Instr.loadAt T (.pointer (some ⟨g, 0, none⟩))).run P w = .ok (.agg cs) w := by
  have := run_loadAt_mid (P := P) w g 0 T cs.toList d (hr.range 0 _ fun j v hv => by rw [Nat.zero_add, ← Array.getElem?_toList]; exact hv) hu hd (by rw [Array.length_toList]; exact hi)
  rwa [Array.toArray_toList] at this
theorem run_load_part {w : World} {g o : Nat} {t T : TypeId} {cs vs : Array Value} {d : TypeDesc} (hr : Row w g t cs) (hv : ∀ j, j < vs.size → cs[o + j]? = vs[j]?) (hu : P.underlying T = some d) (hd : d.isRow = true) (hi : (P.info? T).map (·.size) = some vs.size) : (Instr.loadAt T (.pointer (some ⟨g, o, none⟩))).run P w = .ok (.agg vs) w := by
  have := run_loadAt_mid (P := P) w g o T vs.toList d (hr.range o _ fun j v hj => by
    have hlt : j < vs.size := by
      rcases Nat.lt_or_ge j vs.size with h | h
      · exact h
      · rw [Array.getElem?_toList, Array.getElem?_eq_none h] at hj; cases hj
    rw [hv j hlt, ← Array.getElem?_toList]; exact hj) hu hd (by rw [Array.length_toList]; exact hi)
  rwa [Array.toArray_toList] at this
theorem run_put_row {w : World} {g : Nat} {t T : TypeId} {cs vs : Array Value} (hr : Row w g t cs) (hs : vs.size = cs.size) (hi : (P.info? T).map (·.size) = some vs.size) (h1 : vs.all (·.oneCell') = true) :
    ∃ w', (Instr.storeAt T (.pointer (some ⟨g, 0, none⟩)) (.agg vs)).run P w = .ok () w' ∧ Row w' g t vs ∧ w.grownBy w' (some g) := by
  refine ⟨_, run_store_row hr vs hi (by omega) h1, ?_, grown_setCells _ _ _⟩
  have := row_setCells vs.toList 0 w cs hr
  rwa [setFrom_whole _ _ (by simp [hs])] at this
end
theorem Row.has {w : World} {g : Nat} {t : TypeId} {cs : Array Value} (h : Row w g t cs) (i : Nat) (hi : i < cs.size) : ∃ v, w.cell? ⟨g, i, none⟩ = some v := ⟨_, (h.cell i).trans (Array.getElem?_eq_getElem hi)⟩
theorem below_dN {B : Nat} {w W : World} (h : Below B w W) (n : Nat) : Below B w (W.drewN n) := h.trans ((Drawn.refl W).drewN n |>.below _)
/-- An array of which the first places have been filled. -/
def fillTo (n : Nat) (z : Value) (f : Nat → Value) (k : Nat) : Array Value := ((List.range n).map fun j => if j < k then f j else z).toArray
theorem fillTo_size (n : Nat) (z : Value) (f : Nat → Value) (k : Nat) : (fillTo n z f k).size = n := by simp [fillTo]
theorem fillTo_get (n : Nat) (z : Value) (f : Nat → Value) (k j : Nat) (h : j < n) : (fillTo n z f k)[j]? = some (if j < k then f j else z) := by simp [fillTo, h]
theorem fillTo_get_lt {n : Nat} {z : Value} {f : Nat → Value} {k j : Nat} (hk : k ≤ n) (h : j < k) : (fillTo n z f k)[j]? = some (f j) := by rw [fillTo_get _ _ _ _ _ (by omega), if_pos h]
theorem fillTo_zero (n : Nat) (z : Value) (f : Nat → Value) : fillTo n z f 0 = Array.replicate n z := by
  apply Array.ext_getElem?
  intro i
  by_cases h : i < n
  · rw [fillTo_get n z f 0 i h, if_neg (by omega)]; simp [h]
  · rw [Array.getElem?_eq_none (by rw [fillTo_size]; omega), Array.getElem?_eq_none (by simp; omega)]
theorem fillTo_set (n : Nat) (z : Value) (f : Nat → Value) (k : Nat) (h : k < n) : (fillTo n z f k).setIfInBounds k (f k) = fillTo n z f (k + 1) := by
  apply Array.ext_getElem?
  intro i
  rw [Array.getElem?_setIfInBounds]
  by_cases hi : i < n
  · by_cases e : k = i
    · subst e; rw [if_pos rfl, if_pos (by rw [fillTo_size]; exact h), fillTo_get n z f (k + 1) k hi, if_pos (by omega)]
    · rw [if_neg e, fillTo_get n z f k i hi, fillTo_get n z f (k + 1) i hi]
      by_cases h3 : i < k
      · rw [if_pos h3, if_pos (by omega)]
      · rw [if_neg h3, if_neg (by omega)]
  · rw [if_neg (by omega), Array.getElem?_eq_none (by rw [fillTo_size]; omega), Array.getElem?_eq_none (by rw [fillTo_size]; omega)]
theorem fillTo_all (n : Nat) (z : Value) (f : Nat → Value) : fillTo n z f n = ((List.range n).map f).toArray := by
  unfold fillTo
  apply congrArg List.toArray
  apply List.map_congr_left
  intro j hj
  rw [if_pos (List.mem_range.1 hj)]
theorem fillTo_one {n : Nat} {z : Value} {f : Nat → Value} {k : Nat} (hz : z.oneCell' = true) (hf : ∀ j, (f j).oneCell' = true) : (fillTo n z f k).all (·.oneCell') = true := by
  rw [Array.all_eq_true_iff_forall_mem]
  intro v hv
  unfold fillTo at hv
  rw [List.mem_toArray] at hv
  obtain ⟨i, hi, rfl⟩ := List.mem_map.1 hv
  split
  · exact hf i
  · exact hz
end Go.Proofs.YtcajhdmppfiaeaaGreat
namespace Go.Proofs.YtcajhdmppfiaeaaGreat
open Go.RowKit
def Sha.zeros (n : Nat) : List UInt8 := List.replicate n 0
theorem setFrom_mid (pre mid post vs : List Value) (o : Nat) (ho : pre.length = o) (h : vs.length = mid.length) : setFrom (pre ++ (mid ++ post)).toArray o vs = (pre ++ (vs ++ post)).toArray := by
  subst ho
  apply Array.ext_getElem?
  intro i
  rw [setFrom_get _ _ _ _ (by simp; omega), List.getElem?_toArray, List.getElem?_toArray]
  by_cases h1 : i < pre.length
  · rw [if_neg (by omega), List.getElem?_append_left h1, List.getElem?_append_left h1]
  · have hl : ∀ m : List Value, (pre ++ (m ++ post))[i]? = (m ++ post)[i - pre.length]? := fun m => List.getElem?_append_right (by omega)
    rw [hl mid, hl vs]
    by_cases h2 : i < pre.length + vs.length
    · rw [if_pos (by omega), List.getElem?_append_left (by omega)]
    · rw [if_neg (by omega), List.getElem?_append_right (l₁ := vs) (by omega), List.getElem?_append_right (l₁ := mid) (by omega), h]
def hC (b : List UInt8) : Array Value := ((b ++ Sha.zeros (32 - b.length)).map byteV).toArray
theorem hC_copy (b d : List UInt8) (h : b.length + d.length ≤ 32) : setFrom (hC b) b.length (d.map byteV) = hC (b ++ d) := by
  have := setFrom_mid (b.map byteV) ((Sha.zeros d.length).map byteV) ((Sha.zeros (32 - b.length - d.length)).map byteV) (d.map byteV) b.length (by simp) (by simp [Sha.zeros])
  unfold hC
  rw [show Sha.zeros (32 - b.length) = Sha.zeros d.length ++ Sha.zeros (32 - b.length - d.length) from by unfold Sha.zeros; rw [List.replicate_append_replicate]; congr 1; omega]
  simp only [List.map_append, List.append_assoc, List.length_append] at this ⊢
  rw [this, show 32 - (b.length + d.length) = 32 - b.length - d.length from by omega]
theorem hC_size (b : List UInt8) (h : b.length ≤ 32) : (hC b).size = 32 := by simp [hC, Sha.zeros]; omega
theorem info5 : (Tryz.prog.info? 5).map (fun i => (i.zero, i.size, i.bytes)) = some (some (.int .u8 0), 1, 1) := by kernel_rfl
theorem infoH : (Tryz.prog.info? 24).map (·.size) = some 32 := by kernel_rfl
theorem allocH (w : World) : (Instr.alloc 24 true (.tuple #[])).run Tryz.prog w = .ok (.pointer (some ⟨w.heap.size, 0, none⟩)) (w.alloc (.cells (hC []) 24)) := by kernel_rfl
theorem boxH (h : List UInt8) (hl : h.length = 32) (w : World) : (Instr.box 24 (.agg (hC h))).run Tryz.prog w = .ok (.pointer (some ⟨w.heap.size, 0, none⟩)) (w.alloc (.cells (hC h) 24)) := by
  have hs := hC_size h (by omega)
  go_simp
theorem boxHat (h : List UInt8) (hl : h.length = 32) (w : World) : (Instr.box 24 (.agg (hC h))).run Tryz.prog w = .ok (.pointer (some ⟨w.heap.size, 0, none⟩)) (w.alloc (.cells (hC h) 24)) := boxH h hl w
theorem idxHash {cs : Array Value} {k : Nat} {v : Value} {W : World} (hk : k < 32) (h : cs[k]? = some v) : (Instr.index 24 (.agg cs) (.int .i64 (k : Int))).run Tryz.prog W = .ok v W := by
  have h1 : (k : Int) < 32 := by omega
  have h2 : (0 : Int) ≤ (k : Int) := by omega
  obtain ⟨i, hi0, hz, hs, hb⟩ := info_parts info5
  simp [Instr.index, run_underlying Tryz.underlying24, asIntOf, h1, h2, sizeOf, typeInfo, hi0, hs]
  rw [if_pos hk]
  have h' : cs[k]?.getD undef = v := by rw [h]; rfl
  simp [part, go_sem, sizeOf, typeInfo, hi0, hs, h, h']
theorem hC_get (h : List UInt8) (k : Nat) (hk : k < h.length) (hl : h.length ≤ 32) : (hC h)[k]? = some (.int .u8 ((h[k]).toNat : Int)) := by
  unfold hC
  rw [List.getElem?_toArray, List.getElem?_map, List.getElem?_append_left hk, List.getElem?_eq_getElem hk]
  rfl
theorem loadH {w : World} {g : Nat} {h : List UInt8} (hl : h.length = 32) (hr : Row w g 24 (hC h)) : (Instr.loadAt 24 (.pointer (some ⟨g, 0, none⟩))).run Tryz.prog w = .ok (.agg (hC h)) w := by
  have := run_loadAt_mid (P := Tryz.prog) w g 0 24 (hC h).toList _ (hr.range 0 _ fun j v hv => by rw [Nat.zero_add, ← Array.getElem?_toList]; exact hv) Tryz.underlying24 rfl (by rw [Array.length_toList, hC_size h (by omega)]; exact infoH)
  rwa [Array.toArray_toList] at this
theorem hC_one (b : List UInt8) : (hC b).all (·.oneCell') = true := by
  rw [Array.all_eq_true_iff_forall_mem]
  intro v hv
  unfold hC at hv
  rw [List.mem_toArray] at hv
  obtain ⟨i, hi, rfl⟩ := List.mem_map.1 hv; rfl
theorem storeH {w : World} {g : Nat} {a b : List UInt8} (ha : a.length ≤ 32) (hb : b.length ≤ 32) (hr : Row w g 24 (hC a)) : ∃ w', (Instr.storeAt 24 (.pointer (some ⟨g, 0, none⟩)) (.agg (hC b))).run Tryz.prog w = .ok () w' ∧ Row w' g 24 (hC b) ∧ w.grownBy w' (some g) := by
  have h1 := hC_size a ha
  have h2 := hC_size b hb
  refine ⟨_, run_store_row hr (hC b) (by rw [h2]; exact infoH) (by rw [h1, h2]; omega) (hC_one _), ?_, grown_setCells _ _ _⟩
  have hr2 := row_setCells (hC b).toList 0 w _ hr
  rw [setFrom_whole _ _ (by rw [Array.length_toList, h1, h2]), Array.toArray_toList] at hr2
  exact hr2
theorem rd_hash {w : World} {g : Nat} {h : List UInt8} {t : TypeId} (hl : h.length = 32) (hr : Row w g t (hC h)) : Rd w (some ⟨g, 0, none⟩) h := fun _ =>
  ⟨_, _, rfl, fun i hi => by
    rw [hr.cell, Nat.zero_add]
    exact hC_get h i hi (by omega)⟩
theorem sliceHash {g : Nat} (W : World) : (Instr.sliceAt 24 (.pointer (some ⟨g, 0, none⟩)) none none none).run Tryz.prog W = .ok (.slice (some ⟨g, 0, none⟩) 32 32) W := by
  obtain ⟨i, hi0, hz, hs, hb⟩ := info_parts info5
  simp [Instr.sliceAt, run_underlying Tryz.underlying24, sizeOf, typeInfo, hi0, hs, go_sem]
theorem hC_full (h : List UInt8) (hl : h.length = 32) : hC h = (h.map byteV).toArray := by
  unfold hC
  simp [Sha.zeros, hl]
theorem hC_cells (B : List UInt8) (h : B.length = 32) : hC B = (B.map Extern.Stop.cell).toArray := by
  unfold hC
  simp [Sha.zeros, h]
  intro a _
  rfl
theorem eqlHash (a b : List UInt8) (ha : a.length = 32) (hb : b.length = 32) (w : World) : (binOp .eql 24 (.agg (hC a)) (.agg (hC b))).run Tryz.prog w = .ok (.bool (a == b)) w := by
  rw [run_eql_struct, hC_cells a ha, hC_cells b hb, run_equalIn_bytes w 9998 24 5 32 Tryz.underlying24 Tryz.underlying5 (fun w => by kernel_rfl) a b ha hb]
  simp
theorem neqHash (a b : List UInt8) (ha : a.length = 32) (hb : b.length = 32) (w : World) : (binOp .neq 24 (.agg (hC a)) (.agg (hC b))).run Tryz.prog w = .ok (.bool (!(a == b))) w := by
  rw [run_neq_struct, hC_cells a ha, hC_cells b hb, run_equalIn_bytes w 9998 24 5 32 Tryz.underlying24 Tryz.underlying5 (fun w => by kernel_rfl) a b ha hb]
  simp
theorem eqlSame (a : List UInt8) (ha : a.length = 32) (w : World) : (binOp .eql 24 (.agg (hC a)) (.agg (hC a))).run Tryz.prog w = .ok (.bool true) w := by rw [eqlHash a a ha ha, beq_self_eq_true]
end Go.Proofs.YtcajhdmppfiaeaaGreat
namespace Go.Proofs.YtcajhdmppfiaeaaGreat
open Go.RowKit Go.Builtin
theorem run_append_zeros_own {P : Program} (w : World) (base g cap : Nat) (t tn ty e : TypeId) (kn : IntKind) (ht : P.underlying t = some (.slice e)) (htn : P.underlying tn = some (.int kn)) (hi : ByteInfo P e) (l : List UInt8) (m : Nat) (hl : l.length = m)
    (hown : Own e w base (.slice (some ⟨g, 0, none⟩) m cap) l) (n : Nat) (hm : m + n ≤ 1000000000) (hbase : base ≤ w.heap.size) :
    ∃ v' w', (Builtin.append_ #[t, tn] ty #[.slice (some ⟨g, 0, none⟩) m cap, .int kn n]).run P w = .ok v' w' ∧ Own e w' base v' (l ++ List.replicate n 0) ∧ w.grownBy w' (some g) ∧ (v'.ownBlock = some g ∨ v'.ownBlock = some w.heap.size) := by
  obtain ⟨i, hi0, hz, hs, hb⟩ := info_parts hi
  subst hl
  have hw : IntKind.i64.wrap (n : Int) = n := by rw [IntKind.wrap_i64]; omega
  have h48i : ¬ (281474976710656 < (n : Int)) := by omega
  have hneg : ¬ ((n : Int) < 0) := by omega
  rcases hown.2 with ⟨hv, _⟩ | ⟨g', cap', cur, hv, hbg, hg, hnc, hcm, hcs, htake⟩
  · cases hv
  · injection hv with h1 h2 h3
    injection h1 with h1
    injection h1 with h1
    subst h1 h3
    have hcr : ((List.replicate n (0 : UInt8)).map byteV).length = n := by simp
    by_cases hroom : l.length + n ≤ cap
    · have hst := run_storeCells_at P g l.length e ((List.replicate n (0 : UInt8)).map byteV) 0 cur w hg (by rw [hcr]; omega) (by intro u hu; obtain ⟨x, _, rfl⟩ := List.mem_map.1 hu; rfl)
      simp only [Nat.add_zero] at hst
      have hrun : (Builtin.append_ #[t, tn] ty #[.slice (some ⟨g, 0, none⟩) l.length cap, .int kn n]).run P w = .ok (.slice (some ⟨g, 0, none⟩) (l.length + n) cap) (w.setRow g (cur.toList.take l.length ++ (List.replicate n (0 : UInt8)).map byteV ++ cur.toList.drop (l.length + ((List.replicate n (0 : UInt8)).map byteV).length)).toArray) := by
        rcases Nat.eq_zero_or_pos n with rfl | h0
        · have hself := setRow_self w g cur e (0, 0) hg
          have hw0 : IntKind.i64.wrap 0 = 0 := by decide
          simp [Builtin.append_, run_underlying ht, run_underlying htn, sizeOf, typeInfo, zeroValue, hi0, hz, hs, hb, asInt, asIntOf, hw0, hroom, Addr.add_lit, storeCells, hself, show l.length ≤ cap from by omega]
        · have hn : n ≠ 0 := by omega
          have hz2 : (zeroCells (Value.int IntKind.u8 0).cells n).toList = (List.replicate n (0 : UInt8)).map byteV := by
            rw [show (Value.int IntKind.u8 0).cells = #[.int .u8 0] from rfl, zeroCells_list]
          rw [List.map_replicate] at hst
          simp [Builtin.append_, run_underlying ht, run_underlying htn, sizeOf, typeInfo, zeroValue, hi0, hz, hs, hb, asInt, asIntOf, hw, hn, hneg, hroom, h48i, Addr.add_lit, hz2, hst]
      refine ⟨_, _, hrun, ⟨by simp, .inr ⟨g, cap, _, by simp, hbg, setRow_heap w g cur _ e _ hg, by simpa using hroom, hcm, ?_, ?_⟩⟩, ⟨rfl, rfl, rfl, by simp, fun k _ hk => setRow_other w g k _ (fun e => hk (by rw [e]))⟩, .inl rfl⟩
      · simp only [List.size_toArray, List.length_append, List.length_take, List.length_drop, Array.length_toList, hcr]
        omega
      · rw [Nat.mul_one] at htake ⊢
        rw [htake, List.map_append, List.length_append, List.length_replicate]
        simp only [List.append_assoc]
        rw [← List.append_assoc]
        exact List.take_left' (by simp)
    · have hn : n ≠ 0 := by omega
      have hnl : ¬ (l.length + n ≤ cap) := hroom
      have h63' : ¬ (9223372036854775807 < (l.length : Int) + (n : Int)) := by omega
      have hfc : (firstCells 1 l.length (.slice (some ⟨g, 0, none⟩) l.length cap)).run P w.drew = .ok (l.map byteV).toArray w.drew :=
        run_firstCells_some (P := P) w.drew 1 l.length ⟨g, 0, none⟩ l.length cap (l.map byteV) (by simp) (World.ownsRow.cells hown (g := g) rfl)
      have h48' : ¬ (281474976710656 < Builtin.nextslicecap (l.length + n) cap) := by
        have := nextslicecap_le (need := l.length + n) (old := cap) (by omega)
        have hc2 : cap < l.length + n := by omega
        omega
      have hge := grownCap_ge w (l.length + n) cap e
      have hle := grownCap_le_maxLen w (l.length + n) cap e (by unfold maxLen; omega)
      have hrun : (Builtin.append_ #[t, tn] ty #[.slice (some ⟨g, 0, none⟩) l.length cap, .int kn n]).run P w = .ok (.slice (some ⟨w.heap.size, 0, none⟩) (l.length + n) (grownCap w (l.length + n) cap e)) (w.drew.alloc (.cells ((l.map byteV).toArray ++ Builtin.zeroCells #[.int .u8 0] n ++ Builtin.zeroCells #[.int .u8 0] (grownCap w (l.length + n) cap e - (l.length + n))) e)) := by
        simp [Builtin.append_, run_underlying ht, run_underlying htn, sizeOf, typeInfo, zeroValue, hi0, hz, hs, hb, asInt, asIntOf, hw, hn, hneg, hnl, h63', h48', h48i, Question.forced, newRow, grownCap, hfc]
        rfl
      refine ⟨_, _, hrun, ⟨by simp, .inr ⟨w.heap.size, grownCap w (l.length + n) cap e, _, by simp, hbase, heap_alloc_new w.drew _, by simpa using hge, hle, ?_, ?_⟩⟩, ⟨rfl, rfl, rfl, by simp, fun k hk _ => Below.heap_alloc w.drew _ k hk⟩, .inr rfl⟩
      · simp [zeroCells_list]
        omega
      · rw [zeroCells_list, zeroCells_list, Nat.mul_one]
        simp only [List.append_toArray, List.map_append, List.length_append, List.length_replicate]
        exact List.take_left' (by simp)
theorem wpList_append_zeros {P : Program} {w : World} {ops : Array Oper} {rest : List Oper} {o : Oper} {a : Act} {Q : Exit → Act → World → Prop} (hgd : o.guard = none) (s x : Operand) (t tn : TypeId)
    (ho : o.op = .call { callee := .builtin .append, args := #[s, x], argTypes := #[t, tn] }) (base g cap : Nat) (e : TypeId) (kn : IntKind) (ht : P.underlying t = some (.slice e)) (htn : P.underlying tn = some (.int kn)) (hi : ByteInfo P e)
    (l : List UInt8) (m : Nat) (hl : l.length = m) (hs : a.eval s = .slice (some ⟨g, 0, none⟩) m cap) (hown : Own e w base (.slice (some ⟨g, 0, none⟩) m cap) l) (n : Nat) (hx : a.eval x = .int kn n) (hm : m + n ≤ 1000000000) (hbase : base ≤ w.heap.size)
    (h : ∀ v' w', Own e w' base v' (l ++ List.replicate n 0) → w.grownBy w' (some g) → (v'.ownBlock = some g ∨ v'.ownBlock = some w.heap.size) → wpList P ops Q rest (a.put o.dst v') w') : wpList P ops Q (o :: rest) a w := by
  obtain ⟨v', w', hr, h1, h2, h3⟩ := run_append_zeros_own (P := P) w base g cap t tn o.type e kn ht htn hi l m hl hown n hm hbase
  exact Lib.wpList_append_run w hgd s x t tn ho _ _ hs hx v' w' hr (h v' w' h1 h2 h3)
end Go.Proofs.YtcajhdmppfiaeaaGreat
namespace Go.Proofs.YtcajhdmppfiaeaaGreat
open Go.RowKit
theorem run_rows1 (W : World) (A : Option Addr) (n c : Nat) : (Instr.buildSlice 150 1 #[(0, .slice A n c)]).run Tryz.prog W = .ok (.slice (some ⟨W.heap.size, 0, none⟩) 1 1) (W.alloc (.cells #[.slice A n c] 32)) := by kernel_rfl
theorem run_rows2 (W : World) (A : Option Addr) (n c : Nat) (B : Option Addr) (m d : Nat) : (Instr.buildSlice 150 2 #[(0, .slice A n c), (1, .slice B m d)]).run Tryz.prog W = .ok (.slice (some ⟨W.heap.size, 0, none⟩) 2 2) (W.alloc (.cells #[.slice A n c, .slice B m d] 32)) := by kernel_rfl
theorem run_rows3 (W : World) (A : Option Addr) (n c : Nat) (B : Option Addr) (m d : Nat) (C : Option Addr) (p e : Nat) : (Instr.buildSlice 150 3 #[(0, .slice A n c), (1, .slice B m d), (2, .slice C p e)]).run Tryz.prog W = .ok (.slice (some ⟨W.heap.size, 0, none⟩) 3 3) (W.alloc (.cells #[.slice A n c, .slice B m d, .slice C p e] 32)) := by kernel_rfl
theorem run_slice_upto {P : Program} {t U : TypeId} {A : Option Addr} {n ca k : Nat} (ht : P.underlying t = some (.slice U)) (hi : ByteInfo P U) (h2 : k ≤ ca) :
    ∀ w : World, (Instr.sliceAt t (.slice A n ca) none (some (.int .i64 (k : Int))) none).run P w = .ok (.slice A k ca) w := fun w => by
  obtain ⟨i, hi0, hz, hs, hb⟩ := info_parts hi
  have he : P.elem t = U := by simp [Program.elem, ht]
  have ht' : P.underlying t = some (.slice (P.elem t)) := by rw [he]; exact ht
  rw [run_sliceAt_slice w t _ _ _ _ ht', run_slice_h w t A n ca ht' .i64 (k : Int) (by omega) (by omega), he]
  have hz : ∀ x : Addr, x.add 0 = x := fun x => by simp [Addr.add]
  simp [sizeOf, typeInfo, hi0, hs, sliced, hz]
theorem run_extract0 {P : Program} (x y : Value) (W : World) : (Instr.extract (.tuple #[x, y]) 0).run P W = .ok x W := by simp [Instr.extract]
theorem run_extract1 {P : Program} (x y : Value) (W : World) : (Instr.extract (.tuple #[x, y]) 1).run P W = .ok y W := by simp [Instr.extract]
end Go.Proofs.YtcajhdmppfiaeaaGreat
namespace Go.Proofs.YtcajhdmppfiaeaaGreat
open Go.RowKit
theorem eqgHash (b : BinOp) (x y : Operand) (xs ys : Array Value) (w : World) : (eqGuard b 24 x y (.agg xs) (.agg ys)).run Tryz.prog w = .ok () w := run_eqGuard_agg w b _ x y xs ys (by kernel_rfl)
theorem Rd.byteZ {w : World} {t : TypeId} {z : Int} (h0 : 0 ≤ z) (h1 : z < 256) : Rd (w.alloc (.cells #[.int .u8 z] t)) (some ⟨w.heap.size, 0, none⟩) [UInt8.ofNat z.toNat] :=
  Rd.byte1 (by rw [UInt8.toNat_ofNat']; omega)
end Go.Proofs.YtcajhdmppfiaeaaGreat
namespace Go.Proofs.YtcajhdmppfiaeaaGreat
open Go.ChangeShapes Go.WideShapes Go.ChangeAt Go.RowKit
def byteOfV : Value → UInt8
  | .int _ z => UInt8.ofNat z.toNat
  | _ => 0
theorem open_arr8 {H : Type} {enc : TypeId × Value → H} {P : Program} {w : World} {r : Reach} {b0 base : Nat} {spare : Nat → Bool} {held : Bool} {t e : TypeId} {n : Nat} {v : Value} {d : DataW H} {ps : List MemPlace} (ht : P.underlying t = some (.array n e)) (he : P.underlying e = some (.int .u8)) (hce : P.cellsOf e = 1) (hct : P.cellsOf t = n)
    (hval : Value.okWide P w r b0 t v) (hd : DataW.Trod enc P w base spare held t v d ps) : ∃ l : List UInt8, l.length = n ∧ v = .agg (l.map byteV).toArray := by
  obtain ⟨cs, rfl, hsz, _⟩ : ∃ cs, v = .agg cs ∧ cs.size = P.cellsOf t ∧ Row.okWide P w r b0 t cs := by
    simpa [Value.okWide, ht] using hval
  obtain ⟨fuel, hf⟩ := hd
  obtain ⟨xs, m, rfl, _, _, hn, hx⟩ := DataW.trod_array ht hf
  rw [hct] at hsz
  have hcell : ∀ i, i < n → ∃ z : Int, cs[i]? = some (.int .u8 z) ∧ 0 ≤ z ∧ z ≤ 255 := by
    intro i hi
    have h := hx i hi
    rw [hce, Nat.mul_one, List.getElem?_eq_getElem (by omega)] at h
    obtain ⟨z, hz, _, hw⟩ := DataW.trod_int he h
    refine ⟨z, ?_, ?_⟩
    · have hcl : i < cs.toList.length := by simp; omega
      simp only [Value.cells] at hz
      rw [List.drop_eq_getElem_cons hcl] at hz
      simp only [List.take_succ_cons, List.take_zero] at hz
      injection hz with hz
      rw [← hz, ← Array.getElem?_toList, List.getElem?_eq_getElem hcl]
    · simp [Lit.wf, IntKind.min, IntKind.max, IntKind.signed, IntKind.bits] at hw
      omega
  refine ⟨cs.toList.map byteOfV, by simp; exact hsz, ?_⟩
  congr 1
  apply Array.ext_getElem?
  intro i
  by_cases hi : i < n
  · obtain ⟨z, hz, h1, h2⟩ := hcell i hi
    have hz' : cs.toList[i]? = some (.int .u8 z) := by rw [Array.getElem?_toList]; exact hz
    simp only [List.getElem?_toArray, List.getElem?_map, hz', Option.map_some, hz, byteOfV]
    congr 1
    unfold byteV
    congr 1
    rw [UInt8.toNat_ofNat']
    omega
  · rw [Array.getElem?_eq_none (by omega), Array.getElem?_eq_none (by simp; omega)]
end Go.Proofs.YtcajhdmppfiaeaaGreat
namespace Go.Proofs.YtcajhdmppfiaeaaGreat
open Go.RowKit
theorem conv_rd (w : World) (l : List UInt8) (hl : l.length ≤ 9223372036854775807) : ∃ W cap, (convert 9 32 (.string ⟨l.toArray⟩)).run Tryz.prog w = .ok (.slice (some ⟨w.heap.size, 0, none⟩) l.length cap) W ∧ Rd W (some ⟨w.heap.size, 0, none⟩) l ∧ l.length ≤ cap ∧ cap ≤ 9223372036854775807 ∧ Later w W := by
  refine ⟨_, _, Lib.run_convert_string_bytes (P := Tryz.prog) w 9 32 5 ⟨l.toArray⟩ Tryz.underlying9 Tryz.underlying32 Tryz.underlying5, fun _ => ⟨_, _, rfl, fun i hi => ?_⟩, grownCap_ge _ _ _ _, ?_, ⟨rfl, rfl, rfl, by rw [Lib.bytesWorld_size]; omega, fun b hb => Lib.bytesWorld_at_old _ _ _ b hb⟩⟩
  · rw [cell_of_row _ _ (0 + i) _ _ _ (Lib.bytesWorld_at_new _ _ _), Nat.zero_add]
    simp [Lib.bytesCells, Array.getElem?_append, hi]
  · have := grownCap_le_maxLen w l.length 0 5 (by unfold maxLen; exact hl)
    unfold maxLen at this
    exact this
theorem op_conv {P : Program} {Q : Exit → Act → World → Prop} {o : Oper} {a : Act} {W : World} {R : Value → World → Prop} {s t : TypeId} {x : Operand} {vx : Value} (ho : o.op = .convert s t x) (hx : a.eval x = vx) {v : Value} {W' : World} (hr : (convert s t vx).run P W = .ok v W') (hL : Later W W') (h : R v W') : o.wp P a W (fun a' W' => ∃ v, a' = a.put o.dst v ∧ Later W W' ∧ R v W') Q := op_convert ho hx hr hL h
end Go.Proofs.YtcajhdmppfiaeaaGreat
namespace Go.Proofs.YtcajhdmppfiaeaaGreat
open Go.RowKit
section
variable {P : Program} {Q : Exit → Act → World → Prop}
structure InvG (G : World → World → Prop) (ops : Array Oper) (a0 : Act) (w : World) (V : Nat → Value → World → Prop) (l : Array Bool) (a : Act) (W : World) : Prop where
  size : l.size = ops.size
  closed : ∀ i j, l.getD i false = true → waits ops i j = true → l.getD j false = true
  later : G w W
  act : ∃ xs : Nat → Value, a = laid ops a0 l xs ops.size ∧ ∀ j, j < ops.size → l.getD j false = true → V j (xs j) W
def StepOkE (P : Program) (ops : Array Oper) (Q : Exit → Act → World → Prop) (E : World → World → Prop) (o : Oper) (a : Act) (W : World) (R : Value → World → Prop) : Prop :=
  if Region.wanted o (yielded ops a.tmps) then o.wp P a W (fun a' W' => ∃ v, a' = a.put o.dst v ∧ E W W' ∧ R v W') Q else R undef W
theorem stepOkE_want {ops : Array Oper} {E : World → World → Prop} {o : Oper} {a : Act} {W : World} {R : Value → World → Prop} (hg : o.guard = none) (h : o.wp P a W (fun a' W' => ∃ v, a' = a.put o.dst v ∧ E W W' ∧ R v W') Q) : StepOkE P ops Q E o a W R := by
  unfold StepOkE
  rw [if_pos (by unfold Region.wanted; rw [hg])]
  exact h
theorem stepOkE_later {ops : Array Oper} {E : World → World → Prop} {o : Oper} {a : Act} {W : World} {R : Value → World → Prop} (hE : ∀ W', Later W W' → E W W') (hg : o.guard = none) (h : o.wp P a W (fun a' W' => ∃ v, a' = a.put o.dst v ∧ Later W W' ∧ R v W') Q) : StepOkE P ops Q E o a W R :=
  stepOkE_want hg (Oper.wp_mono (fun a' W' ⟨v, h1, h2, h3⟩ => ⟨v, h1, hE W' h2, h3⟩) h)
theorem wpAnyIn_tail2E {F : Fence} (hF : Wide F) {n : Nat} {ops : Array Oper} (hp : plainAll ops = true) (hd : dstsB ops = true) (hb : backB ops = true) {m : Nat} (ha : anc2B ops m = true) {a0 : Act} (hin : dstIn ops a0.tmps.size = true) {w : World} (hm : ops.size = m + 2) {last y : Oper} (hlast : ops[m]? = some last) (hy : ops[m + 1]? = some y) (hyg : y.guard = none) (hyw : waits ops (m + 1) m = true)
    (E : Nat → World → World → Prop) (G : World → World → Prop) (hEr : ∀ i W, E i W W) (hG : ∀ i W W', G w W → E i W W' → G w W') (V : Nat → Value → World → Prop) (hV : ∀ i j v W W', j ≠ i → V j v W → E i W W' → V j v W')
    (step : ∀ i o a W, i < m → ops[i]? = some o → G w W → Env ops a0 V i a W → StepOkE P ops Q (E i) o a W (V i))
    (fin : ∀ xs W, G w W → (∀ j, j < m → V j (xs j) W) → (∀ x, keepsB ops m x = true → (putL (ops.toList.take m) 0 xs a0).eval x = a0.eval x) → (∀ j t, j < m → dstOf ops j = some t → (putL (ops.toList.take m) 0 xs a0).eval (.tmp t) = xs j) →
      Region.wanted last (yielded ops (putL (ops.toList.take m) 0 xs a0).tmps) = true ∧ last.wp P (putL (ops.toList.take m) 0 xs a0) W (fun a' W' => y.wp P a' W' (fun a W => Q .normal a W) Q) Q) :
    ∀ (fuel : Nat) (l : Array Bool) (a : Act) (W : World), l.toList.count false ≤ fuel → l.getD m false = false → l.getD (m + 1) false = false → InvG G ops a0 w V l a W → wpAnyIn F n P .any ops Q fuel l a W := by
  have hlaid : ∀ (l : Array Bool) (xs : Nat → Value), l.getD m false = false → l.getD (m + 1) false = false → (∀ i, i < m → l.getD i false = true) → laid ops a0 l xs ops.size = putL (ops.toList.take m) 0 xs a0 := fun l xs hf hf1 hl => by
    rw [hm, laid, if_neg (by rw [hf1]; simp), laid, if_neg (by rw [hf]; simp)]
    have key : ∀ (os : List Oper) (k : Nat), k + os.length = m → (∀ j, j < os.length → os[j]? = ops[k + j]?) → putL os k xs (laid ops a0 l xs k) = laid ops a0 l xs m := by
      intro os
      induction os with
      | nil => intro k hk _; rw [show m = k from by simpa using hk.symm]; rfl
      | cons o os ih =>
        intro k hk hos
        rw [putL]
        have h0 : ops[k]? = some o := by have := hos 0 (by simp); simpa using this.symm
        have e : (laid ops a0 l xs k).put o.dst (xs k) = laid ops a0 l xs (k + 1) := by
          rw [laid, if_pos (hl k (by simp at hk; omega))]
          unfold dstOf
          rw [h0]
        rw [e]
        refine ih (k + 1) (by simp at hk; omega) (fun j hj => ?_)
        have := hos (j + 1) (by simp; omega)
        rw [List.getElem?_cons_succ] at this
        rw [this]
        congr 1
        omega
    refine (key (ops.toList.take m) 0 (by simp; omega) (fun j hj => ?_)).symm
    rw [List.getElem?_take_of_lt (by simp at hj; omega)]
    simp
  intro fuel
  induction fuel with
  | zero =>
    intro l a W hc hlf hlf1 hI
    exfalso
    have hmm : m < l.size := by rw [hI.size]; omega
    have hmem : false ∈ l.toList := by
      have : l[m] = false := by simpa [Array.getD, hmm] using hlf
      rw [← this]; exact Array.mem_toList_iff.2 (Array.getElem_mem hmm)
    have := List.count_pos_iff.2 hmem
    omega
  | succ fuel ih =>
    intro l a W hc hlf hlf1 hI
    refine ⟨fun hr => ?_, fun i hi => ?_⟩
    · have := ready_nil hb hI.size hr m (by omega)
      rw [hlf] at this; cases this
    obtain ⟨h1, o, ho, hdeps⟩ := mem_ready.1 hi
    have hlt : i < ops.size := (Array.getElem?_eq_some_iff.1 ho).1
    have hi' : i < l.size := by rw [hI.size]; exact hlt
    have hf : l.getD i false = false := by simp [Array.getD, hi'] at h1 ⊢; exact h1
    obtain ⟨xs, rfl, hx⟩ := hI.act
    have hdst : dstOf ops i = o.dst := by unfold dstOf; rw [ho]
    have hwl : ∀ j, waits ops i j = true → l.getD j false = true := fun j hw => by
      unfold waits at hw
      rw [ho] at hw
      obtain ⟨k, hk, h2⟩ := Array.any_eq_true.1 hw
      simp at h2
      rw [← h2.2]
      exact hdeps _ (Array.getElem_mem hk) h2.1
    have hjlt : ∀ j t, dstOf ops j = some t → j < ops.size := fun j t h => by
      unfold dstOf at h
      cases hj : ops[j]? with
      | none => rw [hj] at h; cases h
      | some o' => exact (Array.getElem?_eq_some_iff.1 hj).1
    have hts : ∀ j t, dstOf ops j = some t → t < a0.tmps.size := fun j t h => by
      unfold dstIn at hin
      rw [List.all_eq_true] at hin
      have := hin j (List.mem_range.2 (hjlt j t h))
      rw [h] at this
      simpa using this
    have hkeep : ∀ x, keepsB ops i x = true → (laid ops a0 l xs ops.size).eval x = a0.eval x := fun x hk => laid_keep x _ (fun j d hj hjd hl hx' => by
        subst hx'
        unfold keepsB at hk
        rw [List.all_eq_true] at hk
        have h3 := hk j (List.mem_range.2 hj)
        rw [hjd] at h3
        simp at h3
        rcases h3 with h3 | h3
        · subst h3; rw [hf] at hl; cases hl
        · have := hI.closed j i hl h3
          rw [hf] at this; cases this)
    have hget : ∀ j t, l.getD j false = true → dstOf ops j = some t → (laid ops a0 l xs ops.size).eval (.tmp t) = xs j := fun j t hl ht => laid_get hd ht hl (hts j t ht) _ (Nat.le_refl _) (hjlt j t ht)
    by_cases him : i = m
    · subst him
      have hall' : ∀ j, j < i → l.getD j false = true := anc2_all ha hI.closed hwl
      obtain rfl : o = last := by rw [ho] at hlast; exact Option.some.inj hlast
      have hf2 := fin xs W hI.later (fun j hj => hx j (by omega) (hall' j hj)) (fun x hk => by rw [← hlaid l xs hf hlf1 hall']; exact hkeep x hk) (fun j t hj ht => by rw [← hlaid l xs hf hlf1 hall']; exact hget j t (hall' j hj) ht)
      rw [← hlaid l xs hf hlf1 hall'] at hf2
      obtain ⟨hw2, hf2⟩ := hf2
      have hpl := plainAll_get hp ho
      have hend : ∀ a' W', y.wp P a' W' (fun a W => Q .normal a W) Q → wpAnyIn F n P .any ops Q fuel (l.setIfInBounds i true) a' W' := fun a' W' hq => by
        have hsz : (l.setIfInBounds i true).size = ops.size := by rw [Array.size_setIfInBounds, hI.size]
        have hself : (l.setIfInBounds i true).getD i false = true := by simp [Array.getD, hi']
        have hset : ∀ j, j ≠ i → (l.setIfInBounds i true).getD j false = l.getD j false := fun j hj => getD_set_ne false (fun e => hj e.symm)
        have h1f : (l.setIfInBounds i true).getD (i + 1) false = false := by rw [hset _ (by omega)]; exact hlf1
        have hcount : 0 < fuel := by
          have hil : i < l.toList.length := by simpa using hi'
          have hlv : l.toList[i] = false := by simpa [Array.getD, hi'] using hf
          have hc2 := List.count_set (a := true) (b := false) (l := l.toList) (i := i) hil
          rw [hlv, if_pos (show (false == false) = true from rfl), if_neg (show ¬ (true == false) = true from by decide)] at hc2
          have h1l : i + 1 < (l.toList.set i true).length := by rw [List.length_set, Array.length_toList, hI.size]; omega
          have hmem : false ∈ l.toList.set i true := by
            have e : (l.toList.set i true)[i + 1] = false := by
              have : i + 1 < l.size := by rw [hI.size]; omega
              rw [List.getElem_set_ne (by omega)]
              simpa [Array.getD, this] using hlf1
            rw [← e]; exact List.getElem_mem h1l
          have := List.count_pos_iff.2 hmem
          omega
        obtain ⟨f2, rfl⟩ : ∃ f2, fuel = f2 + 1 := ⟨fuel - 1, by omega⟩
        refine ⟨fun hr => ?_, fun k hk => ?_⟩
        · have := ready_nil hb hsz hr (i + 1) (by omega)
          rw [h1f] at this; cases this
        · obtain ⟨h1, o', ho', _⟩ := mem_ready.1 hk
          have hklt : k < ops.size := (Array.getElem?_eq_some_iff.1 ho').1
          have hk' : k < (l.setIfInBounds i true).size := by rw [hsz]; exact hklt
          have hkf : (l.setIfInBounds i true).getD k false = false := by
            generalize l.setIfInBounds i true = l' at *
            simp [Array.getD, hk'] at h1 ⊢
            exact h1
          have hki : k = i + 1 := by
            rcases Nat.lt_trichotomy k i with h | h | h
            · rw [hset k (by omega), hall' k h] at hkf; cases hkf
            · subst h; rw [hself] at hkf; cases hkf
            · omega
          subst hki
          obtain rfl : o' = y := by rw [ho'] at hy; exact Option.some.inj hy
          have hfin : ∀ a3 W3, Q .normal a3 W3 → wpAnyIn F n P .any ops Q f2 ((l.setIfInBounds i true).setIfInBounds (i + 1) true) a3 W3 := fun a3 W3 hq3 => by
            refine wpAnyIn_done ?_ hq3 _
            rw [List.eq_nil_iff_forall_not_mem]
            intro q hq4
            obtain ⟨g1, o4, ho4, _⟩ := mem_ready.1 hq4
            have hqlt : q < ops.size := (Array.getElem?_eq_some_iff.1 ho4).1
            have hq' : q < ((l.setIfInBounds i true).setIfInBounds (i + 1) true).size := by rw [Array.size_setIfInBounds, hsz]; exact hqlt
            have g2 : ((l.setIfInBounds i true).setIfInBounds (i + 1) true).getD q false = true := by
              by_cases e : q = i + 1
              · subst e
                simp [Array.getD]
                rw [hI.size]; exact hklt
              · rw [getD_set_ne false (fun e' => e e'.symm)]
                by_cases e2 : q = i
                · subst e2; exact hself
                · rw [hset q e2]; exact hall' q (by omega)
            generalize (l.setIfInBounds i true).setIfInBounds (i + 1) true = l' at *
            simp [Array.getD, hq'] at g1 g2
            rw [g2] at g1
            cases g1
          unfold wpOpIn
          rw [ho']
          simp only
          rw [if_pos (by unfold Region.wanted; rw [hyg])]
          exact Oper.wpIn_mono (fun a3 W3 h3 => hfin a3 W3 h3) (opIn_of_op hF (plainAll_get hp ho') hq)
      unfold wpOpIn
      rw [ho]
      simp only
      rw [if_pos hw2]
      exact Oper.wpIn_mono (fun a' W' h => hend a' W' h) (opIn_of_op hF hpl hf2)
    · by_cases him1 : i = m + 1
      · subst him1
        exfalso
        have := hwl m hyw
        rw [hlf] at this; cases this
      have henv : Env ops a0 V i (laid ops a0 l xs ops.size) W := ⟨hkeep, fun j t hw ht => by
        rw [hget j t (hwl j hw) ht]
        exact hx j (hjlt j t ht) (hwl j hw)⟩
      have hs := step i o _ W (by omega) ho hI.later henv
      have hset : ∀ j, j ≠ i → (l.setIfInBounds i true).getD j false = l.getD j false := fun j hj => getD_set_ne false (fun e => hj e.symm)
      have next : ∀ v W', E i W W' → V i v W' → InvG G ops a0 w V (l.setIfInBounds i true) ((laid ops a0 l xs ops.size).put o.dst v) W' := fun v W' hL hv => by
        refine ⟨by simpa using hI.size, fun p q hp hw => ?_, hG i _ _ hI.later hL, (fun j => if j = i then v else xs j), ?_, fun j hj hl => ?_⟩
        · by_cases e : p = i
          · subst e
            exact getD_set_true (hwl q hw)
          · rw [hset p e] at hp
            exact getD_set_true (hI.closed p q hp hw)
        · rw [← hdst]
          exact laid_put hd v hi' hf _ (Nat.le_refl _) hlt
        · show V j (if j = i then v else xs j) W'
          by_cases e : j = i
          · subst e; rw [if_pos rfl]; exact hv
          · rw [if_neg e]
            rw [hset j e] at hl
            exact hV i j _ W W' e (hx j hj hl) hL
      have hcnt : (l.setIfInBounds i true).toList.count false ≤ fuel := by
        have hil : i < l.toList.length := by simpa using hi'
        have hlv : l.toList[i] = false := by simpa [Array.getD, hi'] using hf
        have := List.count_set (a := true) (b := false) (l := l.toList) (i := i) hil
        rw [Array.toList_setIfInBounds, this, hlv, if_pos (show (false == false) = true from rfl), if_neg (show ¬ (true == false) = true from by decide)]
        have hp : 0 < l.toList.count false := List.count_pos_iff.2 (by rw [← hlv]; exact List.getElem_mem hil)
        omega
      have hlf' : (l.setIfInBounds i true).getD m false = false := by rw [hset m (fun e => him e.symm)]; exact hlf
      have hlf1' : (l.setIfInBounds i true).getD (m + 1) false = false := by rw [hset (m + 1) (fun e => him1 e.symm)]; exact hlf1
      unfold wpOpIn
      rw [ho]
      unfold StepOkE at hs
      simp only
      split
      · rename_i hw
        rw [if_pos hw] at hs
        refine Oper.wpIn_mono (fun a' W' h => ?_) (opIn_of_op hF (plainAll_get hp ho) hs)
        obtain ⟨v, rfl, hL, hv⟩ := h
        exact ih _ _ _ hcnt hlf' hlf1' (next v W' hL hv)
      · rename_i hw
        rw [if_neg hw] at hs
        exact ⟨fun f _ => hF.fn f, ih _ _ _ hcnt hlf' hlf1' (next undef W (hEr i W) hs)⟩
theorem wpIn_region_last2E {F : Fence} (hF : Wide F) {n : Nat} {id : Nat} {o o2 : Oper} {os : List Oper} {a0 : Act} {w : World} (E : Nat → World → World → Prop) (G : World → World → Prop) (hEr : ∀ i W, E i W W) (hG : ∀ i W W', G w W → E i W W' → G w W') (hG0 : G w w.drew) (V : Nat → Value → World → Prop) (hV : ∀ i j v W W', j ≠ i → V j v W → E i W W' → V j v W') (hm : P.follows .mixedOrders = true) (hp : plainAll (o :: o2 :: os).toArray = true) (hd : dstsB (o :: o2 :: os).toArray = true) (hb : backB (o :: o2 :: os).toArray = true) (ha : anc2B (o :: o2 :: os).toArray (init2 o o2 os).length = true) (hin : dstIn (o :: o2 :: os).toArray a0.tmps.size = true)
    (hg : (pen2 o o2 os).guard = none) (hg2 : (last2 o o2 os).guard = none) (hyw : waits (o :: o2 :: os).toArray ((init2 o o2 os).length + 1) (init2 o o2 os).length = true)
    (step : AllFrom (fun i o' => ∀ a W, G w W → Env (o :: o2 :: os).toArray a0 V i a W → StepOkE P (o :: o2 :: os).toArray Q (E i) o' a W (V i)) 0 (init2 o o2 os))
    (fin : ∀ xs W, G w W → (∀ j, j < (init2 o o2 os).length → V j (xs j) W) → (∀ x, keepsB (o :: o2 :: os).toArray (init2 o o2 os).length x = true → (putL (init2 o o2 os) 0 xs a0).eval x = a0.eval x) → (∀ j t, j < (init2 o o2 os).length → dstOf (o :: o2 :: os).toArray j = some t → (putL (init2 o o2 os) 0 xs a0).eval (.tmp t) = xs j) →
      LastOk2 P (pen2 o o2 os) (last2 o o2 os) (putL (init2 o o2 os) 0 xs a0) W Q) : (Code.region id (o :: o2 :: os).toArray true).wpIn F n P Q a0 w := by
  have e := init2_eq os o o2
  rw [← e] at hp hd hb ha hin step fin hyw ⊢
  generalize init2 o o2 os = l at *
  generalize pen2 o o2 os = x at *
  generalize last2 o o2 os = y at *
  have htake : (l ++ [x, y]).toArray.toList.take l.length = l := by simp
  refine wpIn_region_any hm (wpAnyIn_tail2E hF hp hd hb (m := l.length) ha hin (last := x) (y := y) (by simp) (by simp) (by simp) hg2 hyw E G hEr hG V hV (fun i o a W hi ho hL he => ?_) (fun xs W hL hx hk hg' => ?_) _ _ _ _ ?_ ?_ ?_ ⟨by simp, fun i j hi _ => ?_, hG0, fun _ => undef, ?_, fun j hj hl => ?_⟩)
  · have h := allFrom_get l 0 step i o (by
      rw [List.getElem?_toArray, List.getElem?_append_left hi] at ho
      exact ho)
    rw [Nat.zero_add] at h
    exact h a W hL he
  · rw [htake] at hk hg' ⊢
    exact ⟨by unfold Region.wanted; rw [hg], (fin xs W hL hx hk hg').run⟩
  · simp
  · simp [Array.getD]
  · simp [Array.getD]
  · exfalso
    simp [Array.getD] at hi
  · have : ∀ k, laid (l ++ [x, y]).toArray a0 (Array.replicate (l ++ [x, y]).toArray.size false) (fun _ => undef) k = a0 := fun k => by
      induction k with
      | zero => rfl
      | succ k ih => rw [laid, if_neg (by simp [Array.getD]), ih]
    exact (this _).symm
  · exfalso
    simp [Array.getD] at hl
end
end Go.Proofs.YtcajhdmppfiaeaaGreat
namespace Go.Proofs.YtcajhdmppfiaeaaGreat
open Go.RowKit
def upd (xs : Nat → Value) (i : Nat) (v : Value) : Nat → Value := fun j => if j = i then v else xs j
theorem upd_self (xs : Nat → Value) (i : Nat) (v : Value) : upd xs i v i = v := if_pos rfl
theorem upd_ne (xs : Nat → Value) {i j : Nat} (v : Value) (h : j ≠ i) : upd xs i v j = xs j := if_neg h
section
variable {P : Program} {Q : Exit → Act → World → Prop}
structure InvX (G : World → World → Prop) (ops : Array Oper) (a0 : Act) (w : World) (V : Nat → (Nat → Value) → World → Prop) (l : Array Bool) (a : Act) (W : World) : Prop where
  size : l.size = ops.size
  closed : ∀ i j, l.getD i false = true → waits ops i j = true → l.getD j false = true
  later : G w W
  act : ∃ xs : Nat → Value, a = laid ops a0 l xs ops.size ∧ ∀ j, j < ops.size → l.getD j false = true → V j xs W
structure EnvX (ops : Array Oper) (a0 : Act) (V : Nat → (Nat → Value) → World → Prop) (i : Nat) (a : Act) (W : World) (xs : Nat → Value) : Prop where
  keep : ∀ x, keepsB ops i x = true → a.eval x = a0.eval x
  val : ∀ j t, waits ops i j = true → dstOf ops j = some t → a.eval (.tmp t) = xs j
  get : ∀ j, j < ops.size → waits ops i j = true → V j xs W
theorem wpAnyIn_tailX {F : Fence} (hF : Wide F) {n : Nat} {ops : Array Oper} (hp : plainAll ops = true) (hd : dstsB ops = true) (hb : backB ops = true) (ha : ancB ops = true) {a0 : Act} (hin : dstIn ops a0.tmps.size = true) {w : World} {m : Nat} (hm : ops.size = m + 1) {last : Oper} (hlast : ops[m]? = some last)
    (E : Nat → World → World → Prop) (G : World → World → Prop) (hEr : ∀ i W, E i W W) (hG : ∀ i W W', G w W → E i W W' → G w W') (V : Nat → (Nat → Value) → World → Prop) (hV : ∀ i j xs v W W', j < ops.size → j ≠ i → waits ops j i = false → V j xs W → E i W W' → V j (upd xs i v) W')
    (step : ∀ i o a W xs, i < m → ops[i]? = some o → G w W → EnvX ops a0 V i a W xs → StepOkE P ops Q (E i) o a W (fun v W' => V i (upd xs i v) W'))
    (fin : ∀ xs W, G w W → (∀ j, j < m → V j xs W) → (∀ x, keepsB ops m x = true → (putL (ops.toList.take m) 0 xs a0).eval x = a0.eval x) → (∀ j t, j < m → dstOf ops j = some t → (putL (ops.toList.take m) 0 xs a0).eval (.tmp t) = xs j) →
      if Region.wanted last (yielded ops (putL (ops.toList.take m) 0 xs a0).tmps) then last.wp P (putL (ops.toList.take m) 0 xs a0) W (fun a' W' => Q .normal a' W') Q else Q .normal ((putL (ops.toList.take m) 0 xs a0).put last.dst undef) W) :
    ∀ (fuel : Nat) (l : Array Bool) (a : Act) (W : World), l.toList.count false ≤ fuel → l.getD m false = false → InvX G ops a0 w V l a W → wpAnyIn F n P .any ops Q fuel l a W := by
  have hlaid : ∀ (l : Array Bool) (xs : Nat → Value), l.getD m false = false → (∀ i, i < m → l.getD i false = true) → laid ops a0 l xs ops.size = putL (ops.toList.take m) 0 xs a0 := fun l xs hf hl => by
    rw [hm, laid, if_neg (by rw [hf]; simp)]
    have key : ∀ (os : List Oper) (k : Nat), k + os.length = m → (∀ j, j < os.length → os[j]? = ops[k + j]?) → putL os k xs (laid ops a0 l xs k) = laid ops a0 l xs m := by
      intro os
      induction os with
      | nil => intro k hk _; rw [show m = k from by simpa using hk.symm]; rfl
      | cons o os ih =>
        intro k hk hos
        rw [putL]
        have h0 : ops[k]? = some o := by have := hos 0 (by simp); simpa using this.symm
        have e : (laid ops a0 l xs k).put o.dst (xs k) = laid ops a0 l xs (k + 1) := by
          rw [laid, if_pos (hl k (by simp at hk; omega))]
          unfold dstOf
          rw [h0]
        rw [e]
        refine ih (k + 1) (by simp at hk; omega) (fun j hj => ?_)
        have := hos (j + 1) (by simp; omega)
        rw [List.getElem?_cons_succ] at this
        rw [this]
        congr 1
        omega
    refine (key (ops.toList.take m) 0 (by simp; omega) (fun j hj => ?_)).symm
    rw [List.getElem?_take_of_lt (by simp at hj; omega)]
    simp
  intro fuel
  induction fuel with
  | zero =>
    intro l a W hc hlf hI
    exfalso
    have hmm : m < l.size := by rw [hI.size]; omega
    have hmem : false ∈ l.toList := by
      have : l[m] = false := by simpa [Array.getD, hmm] using hlf
      rw [← this]; exact Array.mem_toList_iff.2 (Array.getElem_mem hmm)
    have := List.count_pos_iff.2 hmem
    omega
  | succ fuel ih =>
    intro l a W hc hlf hI
    refine ⟨fun hr => ?_, fun i hi => ?_⟩
    · have := ready_nil hb hI.size hr m (by omega)
      rw [hlf] at this; cases this
    obtain ⟨h1, o, ho, hdeps⟩ := mem_ready.1 hi
    have hlt : i < ops.size := (Array.getElem?_eq_some_iff.1 ho).1
    have hi' : i < l.size := by rw [hI.size]; exact hlt
    have hf : l.getD i false = false := by simp [Array.getD, hi'] at h1 ⊢; exact h1
    obtain ⟨xs, rfl, hx⟩ := hI.act
    have hdst : dstOf ops i = o.dst := by unfold dstOf; rw [ho]
    have hwl : ∀ j, waits ops i j = true → l.getD j false = true := fun j hw => by
      unfold waits at hw
      rw [ho] at hw
      obtain ⟨k, hk, h2⟩ := Array.any_eq_true.1 hw
      simp at h2
      rw [← h2.2]
      exact hdeps _ (Array.getElem_mem hk) h2.1
    have hjlt : ∀ j t, dstOf ops j = some t → j < ops.size := fun j t h => by
      unfold dstOf at h
      cases hj : ops[j]? with
      | none => rw [hj] at h; cases h
      | some o' => exact (Array.getElem?_eq_some_iff.1 hj).1
    have hts : ∀ j t, dstOf ops j = some t → t < a0.tmps.size := fun j t h => by
      unfold dstIn at hin
      rw [List.all_eq_true] at hin
      have := hin j (List.mem_range.2 (hjlt j t h))
      rw [h] at this
      simpa using this
    have hkeep : ∀ x, keepsB ops i x = true → (laid ops a0 l xs ops.size).eval x = a0.eval x := fun x hk => laid_keep x _ (fun j d hj hjd hl hx' => by
        subst hx'
        unfold keepsB at hk
        rw [List.all_eq_true] at hk
        have h3 := hk j (List.mem_range.2 hj)
        rw [hjd] at h3
        simp at h3
        rcases h3 with h3 | h3
        · subst h3; rw [hf] at hl; cases hl
        · have := hI.closed j i hl h3
          rw [hf] at this; cases this)
    have hget : ∀ j t, l.getD j false = true → dstOf ops j = some t → (laid ops a0 l xs ops.size).eval (.tmp t) = xs j := fun j t hl ht => laid_get hd ht hl (hts j t ht) _ (Nat.le_refl _) (hjlt j t ht)
    by_cases him : i = m
    · subst him
      have hall := anc_all ha hI.closed (by rw [hm]; simpa using hwl)
      rw [hm] at hall
      have hall' : ∀ j, j < i → l.getD j false = true := fun j hj => hall j (by omega)
      obtain rfl : o = last := by rw [ho] at hlast; exact Option.some.inj hlast
      have hf2 := fin xs W hI.later (fun j hj => hx j (by omega) (hall' j hj)) (fun x hk => by rw [← hlaid l xs hf hall']; exact hkeep x hk) (fun j t hj ht => by rw [← hlaid l xs hf hall']; exact hget j t (hall' j hj) ht)
      rw [← hlaid l xs hf hall'] at hf2
      have hend : ∀ a' W', Q .normal a' W' → wpAnyIn F n P .any ops Q fuel (l.setIfInBounds i true) a' W' := fun a' W' hq => by
        refine wpAnyIn_done ?_ hq _
        rw [List.eq_nil_iff_forall_not_mem]
        intro k hk
        obtain ⟨h1, o', ho', _⟩ := mem_ready.1 hk
        have hklt : k < ops.size := (Array.getElem?_eq_some_iff.1 ho').1
        have hk' : k < (l.setIfInBounds i true).size := by rw [Array.size_setIfInBounds, hI.size]; exact hklt
        have h2 : (l.setIfInBounds i true).getD k false = true := by
          by_cases e : k = i
          · subst e; simp [Array.getD, hi']
          · exact getD_set_true (hall' k (by omega))
        generalize l.setIfInBounds i true = l' at *
        simp [Array.getD, hk'] at h1 h2
        rw [h2] at h1
        cases h1
      unfold wpOpIn
      rw [ho]
      simp only
      split
      · rename_i hw
        rw [if_pos hw] at hf2
        exact Oper.wpIn_mono (fun a' W' h => hend a' W' h) (opIn_of_op hF (plainAll_get hp ho) hf2)
      · rename_i hw
        rw [if_neg hw] at hf2
        exact ⟨fun f _ => hF.fn f, hend _ _ hf2⟩
    · have henv : EnvX ops a0 V i (laid ops a0 l xs ops.size) W xs := ⟨hkeep, fun j t hw ht => hget j t (hwl j hw) ht, fun j hj hw => hx j hj (hwl j hw)⟩
      have hs := step i o _ W xs (by omega) ho hI.later henv
      have hset : ∀ j, j ≠ i → (l.setIfInBounds i true).getD j false = l.getD j false := fun j hj => getD_set_ne false (fun e => hj e.symm)
      have next : ∀ v W', E i W W' → V i (upd xs i v) W' → InvX G ops a0 w V (l.setIfInBounds i true) ((laid ops a0 l xs ops.size).put o.dst v) W' := fun v W' hL hv => by
        refine ⟨by simpa using hI.size, fun p q hp hw => ?_, hG i _ _ hI.later hL, upd xs i v, ?_, fun j hj hl => ?_⟩
        · by_cases e : p = i
          · subst e
            exact getD_set_true (hwl q hw)
          · rw [hset p e] at hp
            exact getD_set_true (hI.closed p q hp hw)
        · rw [← hdst]
          exact laid_put hd v hi' hf _ (Nat.le_refl _) hlt
        · by_cases e : j = i
          · subst e; exact hv
          · rw [hset j e] at hl
            have hwf : waits ops j i = false := by
              cases hwj : waits ops j i
              · rfl
              · have := hI.closed j i hl hwj
                rw [hf] at this; cases this
            exact hV i j xs v W W' hj e hwf (hx j hj hl) hL
      have hcnt : (l.setIfInBounds i true).toList.count false ≤ fuel := by
        have hil : i < l.toList.length := by simpa using hi'
        have hlv : l.toList[i] = false := by simpa [Array.getD, hi'] using hf
        have := List.count_set (a := true) (b := false) (l := l.toList) (i := i) hil
        rw [Array.toList_setIfInBounds, this, hlv, if_pos (show (false == false) = true from rfl), if_neg (show ¬ (true == false) = true from by decide)]
        have hp : 0 < l.toList.count false := List.count_pos_iff.2 (by rw [← hlv]; exact List.getElem_mem hil)
        omega
      have hlf' : (l.setIfInBounds i true).getD m false = false := by rw [hset m (fun e => him e.symm)]; exact hlf
      unfold wpOpIn
      rw [ho]
      unfold StepOkE at hs
      simp only
      split
      · rename_i hw
        rw [if_pos hw] at hs
        refine Oper.wpIn_mono (fun a' W' h => ?_) (opIn_of_op hF (plainAll_get hp ho) hs)
        obtain ⟨v, rfl, hL, hv⟩ := h
        exact ih _ _ _ hcnt hlf' (next v W' hL hv)
      · rename_i hw
        rw [if_neg hw] at hs
        exact ⟨fun f _ => hF.fn f, ih _ _ _ hcnt hlf' (next undef W (hEr i W) hs)⟩
theorem wpIn_region_tailX {F : Fence} (hF : Wide F) {n : Nat} {id : Nat} {l : List Oper} {last : Oper} {a0 : Act} {w : World} (E : Nat → World → World → Prop) (G : World → World → Prop) (hEr : ∀ i W, E i W W) (hG : ∀ i W W', G w W → E i W W' → G w W') (hG0 : G w w.drew) (V : Nat → (Nat → Value) → World → Prop) (hV : ∀ i j xs v W W', j < (l ++ [last]).toArray.size → j ≠ i → waits (l ++ [last]).toArray j i = false → V j xs W → E i W W' → V j (upd xs i v) W') (hm : P.follows .mixedOrders = true) (hp : plainAll (l ++ [last]).toArray = true) (hd : dstsB (l ++ [last]).toArray = true) (hb : backB (l ++ [last]).toArray = true) (ha : ancB (l ++ [last]).toArray = true) (hin : dstIn (l ++ [last]).toArray a0.tmps.size = true)
    (step : AllFrom (fun i o => ∀ a W xs, G w W → EnvX (l ++ [last]).toArray a0 V i a W xs → StepOkE P (l ++ [last]).toArray Q (E i) o a W (fun v W' => V i (upd xs i v) W')) 0 l) (hg : last.guard = none)
    (fin : ∀ xs W, G w W → (∀ j, j < l.length → V j xs W) → (∀ x, keepsB (l ++ [last]).toArray l.length x = true → (putL l 0 xs a0).eval x = a0.eval x) → (∀ j t, j < l.length → dstOf (l ++ [last]).toArray j = some t → (putL l 0 xs a0).eval (.tmp t) = xs j) →
      last.wp P (putL l 0 xs a0) W (fun a' W' => Q .normal a' W') Q) : (Code.region id (l ++ [last]).toArray true).wpIn F n P Q a0 w := by
  have htake : (l ++ [last]).toArray.toList.take l.length = l := by simp
  refine wpIn_region_any hm (wpAnyIn_tailX hF hp hd hb ha hin (m := l.length) (last := last) (by simp) (by simp) E G hEr hG V hV (fun i o a W xs hi ho hL he => ?_) (fun xs W hL hx hk hg' => ?_) _ _ _ _ ?_ ?_ ⟨by simp, fun i j hi _ => ?_, hG0, fun _ => undef, ?_, fun j hj hl => ?_⟩)
  · have h := allFrom_get l 0 step i o (by
      rw [List.getElem?_toArray, List.getElem?_append_left hi] at ho
      exact ho)
    rw [Nat.zero_add] at h
    exact h a W xs hL he
  · rw [htake] at hk hg' ⊢
    rw [if_pos (by unfold Region.wanted; rw [hg])]
    exact fin xs W hL hx hk hg'
  · simp
  · simp [Array.getD]
  · exfalso
    simp [Array.getD] at hi
  · have : ∀ k, laid (l ++ [last]).toArray a0 (Array.replicate (l ++ [last]).toArray.size false) (fun _ => undef) k = a0 := fun k => by
      induction k with
      | zero => rfl
      | succ k ih => rw [laid, if_neg (by simp [Array.getD]), ih]
    exact (this _).symm
  · exfalso
    simp [Array.getD] at hl
theorem wpIn_region_lastX {F : Fence} (hF : Wide F) {n : Nat} {id : Nat} {o : Oper} {os : List Oper} {a0 : Act} {w : World} (E : Nat → World → World → Prop) (G : World → World → Prop) (hEr : ∀ i W, E i W W) (hG : ∀ i W W', G w W → E i W W' → G w W') (hG0 : G w w.drew) (V : Nat → (Nat → Value) → World → Prop) (hV : ∀ i j xs v W W', j < (o :: os).toArray.size → j ≠ i → waits (o :: os).toArray j i = false → V j xs W → E i W W' → V j (upd xs i v) W') (hm : P.follows .mixedOrders = true) (hp : plainAll (o :: os).toArray = true) (hd : dstsB (o :: os).toArray = true) (hb : backB (o :: os).toArray = true) (ha : ancB (o :: os).toArray = true) (hin : dstIn (o :: os).toArray a0.tmps.size = true) (hg : (lastL o os).guard = none)
    (step : AllFrom (fun i o' => ∀ a W xs, G w W → EnvX (o :: os).toArray a0 V i a W xs → StepOkE P (o :: os).toArray Q (E i) o' a W (fun v W' => V i (upd xs i v) W')) 0 (initL o os))
    (fin : ∀ xs W, G w W → (∀ j, j < (initL o os).length → V j xs W) → (∀ x, keepsB (o :: os).toArray (initL o os).length x = true → (putL (initL o os) 0 xs a0).eval x = a0.eval x) → (∀ j t, j < (initL o os).length → dstOf (o :: os).toArray j = some t → (putL (initL o os) 0 xs a0).eval (.tmp t) = xs j) →
      LastOk P (lastL o os) (putL (initL o os) 0 xs a0) W Q) : (Code.region id (o :: os).toArray true).wpIn F n P Q a0 w := by
  have e := init_last os o
  rw [← e] at hp hd hb ha hin hV step fin ⊢
  exact wpIn_region_tailX hF E G hEr hG hG0 V hV hm hp hd hb ha hin step hg (fun xs W hL hx hk hg' => (fin xs W hL hx hk hg').run)
end
end Go.Proofs.YtcajhdmppfiaeaaGreat
namespace Go.Proofs.YtcajhdmppfiaeaaGreat
open Go.RowKit
/-- One byte behind bytes of one's own: in its place, or in a row that is new. -/
theorem run_append_one {P : Program} (w : World) (base g n cap : Nat) (t ty U : TypeId) (ht : P.underlying t = some (.slice U)) (hi : ByteInfo P U) (l : List UInt8) (hn : l.length = n) (hown : Own U w base (.slice (some ⟨g, 0, none⟩) n cap) l) (hb : base ≤ w.heap.size)
    (b : Nat) (c : UInt8) (m : Nat) (hc : w.cell? ⟨b, 0, none⟩ = some (byteV c)) (hm : n ≤ 1000000000) :
    (n < cap ∧ (Builtin.append_ #[t, t] ty #[.slice (some ⟨g, 0, none⟩) n cap, .slice (some ⟨b, 0, none⟩) 1 m]).run P w = .ok (.slice (some ⟨g, 0, none⟩) (n + 1) cap) (w.setCell ⟨g, n, none⟩ (byteV c))) ∨
    (∃ v' w', (Builtin.append_ #[t, t] ty #[.slice (some ⟨g, 0, none⟩) n cap, .slice (some ⟨b, 0, none⟩) 1 m]).run P w = .ok v' w' ∧ Later w w' ∧ Own U w' base v' (l ++ [c])) := by
  obtain ⟨i, hi0, hz, hs, hby⟩ := info_parts hi
  subst hn
  have hnews : ∀ j u, [byteV c][j]? = some u → w.cell? ((⟨b, 0, none⟩ : Addr).add j) = some u := fun j u hu => by
    rcases j with _ | j
    · simp at hu; subst hu; exact hc
    · simp at hu
  rcases hown.2 with ⟨hv, _⟩ | ⟨g', cap', cur, hv, hbg, hg, hnc, hcm, hcs, htake⟩
  · cases hv
  · injection hv with h1 h2 h3
    injection h1 with h1
    injection h1 with h1
    subst h1 h3
    rw [Nat.mul_one] at hcs
    by_cases hroom : l.length + 1 ≤ cap
    · left
      refine ⟨by omega, ?_⟩
      have hr := run_append_room (P := P) w t ty U i ht hi0 g l.length cap cur hg ⟨b, 0, none⟩ 1 m [byteV c] (by rw [hs]; rfl) hnews (fun u hu => by simp at hu; subst hu; rfl) hroom (by rw [hs]; simp; omega)
      rw [hr, hs, Nat.mul_one]
      congr 1
      have hset : (cur.toList.take l.length ++ [byteV c] ++ cur.toList.drop (l.length + [byteV c].length)).toArray = cur.setIfInBounds l.length (byteV c) := by
        apply Array.ext'
        rw [Array.toList_setIfInBounds, List.set_eq_take_append_cons_drop, if_pos (by simp; omega)]
        simp
      rw [hset]
      have h5 := hg
      simp only [World.setRow, World.setCell]
      congr 1
      apply Array.ext_getElem?
      intro k
      simp only [Array.getElem?_modify]
      by_cases hk : g = k
      · subst hk
        simp [hg]
      · simp [hk]
    · right
      have holds : ∀ j u, (l.map byteV)[j]? = some u → w.cell? ((⟨g, 0, none⟩ : Addr).add j) = some u := World.ownsRow.cells hown (g := g) rfl
      have hr := run_append_grow (P := P) w t ty U i _ ht hi0 hz ⟨g, 0, none⟩ l.length cap (l.map byteV) (by rw [hs]; simp) holds ⟨b, 0, none⟩ 1 m [byteV c] (by rw [hs]; rfl) hnews (by omega) (by omega) (by
        rw [hby]
        have := nextslicecap_le (need := l.length + 1) (old := cap) (by omega)
        omega)
      refine ⟨_, _, hr, ((Later.refl w).drew).alloc _, by simp, .inr ⟨w.heap.size, _, _, by simp; rfl, hb, heap_alloc_new w.drew _, by simpa using grownCap_ge w (l.length + 1) cap U, grownCap_le_maxLen w _ _ _ (by unfold maxLen; omega), ?_, ?_⟩⟩
      · have hge := grownCap_ge w (l.length + 1) cap U
        rw [show (Value.int IntKind.u8 0).cells = #[.int .u8 0] from rfl, zeroCells_list]
        simp
        omega
      · rw [show (Value.int IntKind.u8 0).cells = #[.int .u8 0] from rfl, zeroCells_list, Nat.mul_one]
        simp only [List.append_toArray, List.map_append, List.length_append, List.map_cons, List.map_nil]
        exact List.take_left' (by simp)
/-- What the row of n bytes bears: a byte set behind them. -/
def Turn (B n : Nat) (U : TypeId) (c : UInt8) (W W' : World) : Prop := Later W W' ∨ ∃ r cur, B ≤ r ∧ W.heap[r]? = some (.cells cur U (0, 0)) ∧ n < cur.size ∧ 0 < n ∧ W' = W.setCell ⟨r, n, none⟩ (byteV c)
theorem Turn.below {B n : Nat} {U : TypeId} {c : UInt8} {w W W' : World} (h : Below B w W) (hw : B ≤ w.heap.size) (ht : Turn B n U c W W') : Below B w W' := by
  rcases ht with hL | ⟨r, cur, hr, _, _, _, rfl⟩
  · exact h.trans (hL.below.mono (by have := h.size; omega))
  · exact h.setCell hr _
theorem own_set {U : TypeId} {W : World} {base : Nat} {v : Value} {l : List UInt8} {r k : Nat} {cur : Array Value} {x : Value} (h : Own U W base v l) (hr : W.heap[r]? = some (.cells cur U (0, 0))) (hk : k < cur.size) (hkeep : v.ownBlock = some r → l.length ≤ k ∨ ∃ hi : k < l.length, x = byteV l[k]) : Own U (W.setCell ⟨r, k, none⟩ x) base v l := by
  obtain ⟨h1, h2⟩ := h
  refine ⟨h1, ?_⟩
  rcases h2 with ⟨rfl, hn⟩ | ⟨g, cap, cur', rfl, hb, hh, hn, hc, hs, ht⟩
  · exact .inl ⟨rfl, hn⟩
  · by_cases e : g = r
    · subst e
      rw [hh] at hr
      injection hr with hr
      injection hr with e1 _ _
      subst e1
      refine .inr ⟨g, cap, cur'.setIfInBounds k x, rfl, hb, heap_setCell_same W g k cur' U x hh, hn, hc, by simpa using hs, ?_⟩
      rw [Array.toList_setIfInBounds, Nat.mul_one, List.take_set]
      rw [Nat.mul_one] at ht
      rw [ht]
      rcases hkeep rfl with h3 | ⟨hi, rfl⟩
      · exact List.set_eq_of_length_le (by simpa using h3)
      · apply List.ext_getElem?
        intro j
        rw [List.getElem?_set]
        by_cases e : k = j
        · subst e; rw [if_pos rfl, if_pos (by simpa using hi)]; simp [hi]
        · rw [if_neg e]
    · exact .inr ⟨g, cap, cur', rfl, hb, (heap_setCell_other W _ g x e).trans hh, hn, hc, hs, ht⟩
theorem row_turn {B n : Nat} {U T : TypeId} {c : UInt8} {W W' : World} {g : Nat} {cs : Array Value} (h : Row W g T cs) (hT : T ≠ U ∨ cs.size ≤ n) (ht : Turn B n U c W W') : Row W' g T cs := by
  rcases ht with hL | ⟨r, cur, _, hr, hn, _, rfl⟩
  · exact h.later hL
  · refine h.far (fun e => ?_) _
    have e' : g = r := e
    subst e'
    have h' : W.heap[g]? = some (.cells cs T (0, 0)) := h
    rw [h'] at hr
    injection hr with hr
    injection hr with e1 e2 _
    rcases hT with h1 | h1
    · exact h1 e2
    · subst e1; omega
theorem own_turn {B n : Nat} {U : TypeId} {c : UInt8} {W W' : World} {base : Nat} {v : Value} {l : List UInt8} (h : Own U W base v l) (hn : l.length ≤ n ∨ ∃ hi : n < l.length, l[n] = c) (ht : Turn B n U c W W') : Own U W' base v l := by
  rcases ht with hL | ⟨r, cur, _, hr, hn', _, rfl⟩
  · exact h.later hL
  · refine own_set h hr hn' (fun _ => ?_)
    rcases hn with h1 | ⟨hi, rfl⟩
    · exact .inl h1
    · exact .inr ⟨hi, rfl⟩
end Go.Proofs.YtcajhdmppfiaeaaGreat
namespace Go.Proofs.YtcajhdmppfiaeaaGreat
open Go.RowKit
theorem run_append_void {P : Program} (w : World) (base g : Nat) (t ty U : TypeId) (ht : P.underlying t = some (.slice U)) (hi : ByteInfo P U) (hown : Own U w base (.slice (some ⟨g, 0, none⟩) 0 0) []) (hb : base ≤ w.heap.size)
    (A : Option Addr) (n c : Nat) (l : List UInt8) (hn : l.length = n) (hr : Rd w A l) (hm : n ≤ 1000000000) :
    ∃ g2 cap w', (Builtin.append_ #[t, t] ty #[.slice (some ⟨g, 0, none⟩) 0 0, .slice A n c]).run P w = .ok (.slice (some ⟨g2, 0, none⟩) n cap) w' ∧ Later w w' ∧ Own U w' base (.slice (some ⟨g2, 0, none⟩) n cap) l ∧ (n = 0 → cap = 0) := by
  obtain ⟨i, hi0, hz, hs, hby⟩ := info_parts hi
  subst hn
  rcases Nat.eq_zero_or_pos l.length with h0 | h0
  · have hl : l = [] := List.eq_nil_of_length_eq_zero h0
    subst hl
    refine ⟨g, 0, w, ?_, Later.refl w, hown, fun _ => rfl⟩
    rcases A with _ | ad
    · simp [Builtin.append_, run_underlying ht, sizeOf, typeInfo, hi0, hs, Builtin.lenOf, Builtin.firstCells, storeCells]
    · simp [Builtin.append_, run_underlying ht, sizeOf, typeInfo, hi0, hs, Builtin.lenOf, Builtin.firstCells, loadCells, loadCellsFrom, storeCells]
  · obtain ⟨b, o, rfl, hc⟩ := hr (by intro e; subst e; simp at h0)
    have hnews : ∀ j u, (l.map byteV)[j]? = some u → w.cell? ((⟨b, o, none⟩ : Addr).add j) = some u := fun j u hu => by
      have hj : j < l.length := by
        rcases Nat.lt_or_ge j l.length with h | h
        · exact h
        · rw [List.getElem?_eq_none (by simpa using h)] at hu; cases hu
      rw [List.getElem?_map, List.getElem?_eq_getElem hj, Option.map_some] at hu
      rw [show (⟨b, o, none⟩ : Addr).add j = ⟨b, o + j, none⟩ from by
        rcases Nat.eq_zero_or_pos j with rfl | hp
        · rfl
        · simp [Addr.add, Nat.ne_of_gt hp], hc j hj, hu]
    have h := run_append_grow (P := P) w t ty U i _ ht hi0 hz ⟨g, 0, none⟩ 0 0 [] (by simp) (fun j u hu => by simp at hu) ⟨b, o, none⟩ l.length c (l.map byteV) (by rw [hs]; simp) hnews (by omega) (by omega) (by
      rw [hby]
      have := nextslicecap_le (need := 0 + l.length) (old := 0) (by omega)
      omega)
    rw [Nat.zero_add] at h
    refine ⟨_, _, _, h, ((Later.refl w).drew).alloc _, ⟨by simp, .inr ⟨w.heap.size, _, _, by simp; rfl, hb, heap_alloc_new w.drew _, by simpa using grownCap_ge w l.length 0 U, grownCap_le_maxLen w _ _ _ (by unfold maxLen; omega), ?_, ?_⟩⟩, fun e => by omega⟩
    · have hge := grownCap_ge w l.length 0 U
      rw [show (Value.int IntKind.u8 0).cells = #[.int .u8 0] from rfl, zeroCells_list]
      simp
      omega
    · rw [show (Value.int IntKind.u8 0).cells = #[.int .u8 0] from rfl, zeroCells_list, Nat.mul_one]
      simp
theorem own_push {U : TypeId} {W : World} {base g n cap : Nat} {l : List UInt8} (c : UInt8) (hn : l.length = n) (h : Own U W base (.slice (some ⟨g, 0, none⟩) n cap) l) (hlt : n < cap) : Own U (W.setCell ⟨g, n, none⟩ (byteV c)) base (.slice (some ⟨g, 0, none⟩) (n + 1) cap) (l ++ [c]) ∧ ∃ cur, base ≤ g ∧ W.heap[g]? = some (.cells cur U (0, 0)) ∧ n < cur.size := by
  subst hn
  obtain ⟨h1, h2⟩ := h
  rcases h2 with ⟨e, _⟩ | ⟨g', cap', cur, e, hb, hh, hn, hc, hs, ht⟩
  · cases e
  · injection e with e1 e2 e3
    injection e1 with e1
    injection e1 with e1
    subst e1 e3
    rw [Nat.mul_one] at hs ht
    refine ⟨⟨by simp, .inr ⟨g, cap, cur.setIfInBounds l.length (byteV c), by simp, hb, heap_setCell_same W g _ cur U _ hh, by simp; omega, hc, by simpa using hs, ?_⟩⟩, cur, hb, hh, by omega⟩
    have e : cur.toList.set l.length (byteV c) = (cur.toList.take l.length ++ [byteV c]) ++ cur.toList.drop (l.length + 1) := by
      have hlt' : l.length < cur.toList.length := by
        have h3 : cur.toList.length = cur.size := Array.length_toList
        rw [h3, hs]; exact hlt
      rw [List.set_eq_take_append_cons_drop, if_pos hlt']
      simp
    rw [Nat.mul_one, Array.toList_setIfInBounds, e, ht, List.map_append]
    exact List.take_left' (by simp)
theorem row_turn1 {B n : Nat} {U T : TypeId} {c : UInt8} {W W' : World} {g : Nat} {x : Value} (h : Row W g T #[x]) (ht : Turn B n U c W W') : Row W' g T #[x] := by
  rcases ht with hL | ⟨r, cur, h1, h2, h3, h4, e⟩
  · exact h.later hL
  · exact row_turn (B := B) (n := n) (U := U) (c := c) h (.inr h4) (.inr ⟨r, cur, h1, h2, h3, h4, e⟩)
/-- A variable of type T beyond B is stored anew. -/
def Put (B : Nat) (T : TypeId) (k : Nat) (W W' : World) : Prop := ∃ g cs cs', B ≤ g ∧ Row W g T cs ∧ Row W' g T cs' ∧ cs'.size = k ∧ W.grownBy W' (some g)
theorem row_ne {W : World} {g g' : Nat} {T U : TypeId} {cs cs' : Array Value} (h : Row W g T cs) (h' : Row W g' U cs') (hT : T ≠ U) : g ≠ g' := fun e => by
  subst e
  have h1 : W.heap[g]? = some (.cells cs T (0, 0)) := h
  have h2 : W.heap[g]? = some (.cells cs' U (0, 0)) := h'
  rw [h1] at h2
  injection h2 with h2
  injection h2 with _ h2 _
  exact hT h2
theorem own_put {B k : Nat} {T U : TypeId} {W W' : World} {base : Nat} {v : Value} {l : List UInt8} (h : Own U W base v l) (hT : T ≠ U) (hp : Put B T k W W') : Own U W' base v l := by
  obtain ⟨g, cs, cs', _, hr, _, _, hg⟩ := hp
  refine ⟨h.1, ?_⟩
  rcases h.2 with ⟨rfl, hn⟩ | ⟨g2, cap, cur, rfl, hb, hh, hrest⟩
  · exact .inl ⟨rfl, hn⟩
  · have hne : g2 ≠ g := row_ne (cs := cur) hh hr (fun e => hT e.symm)
    exact .inr ⟨g2, cap, cur, rfl, hb, (hg.block g2 (Array.getElem?_eq_some_iff.1 hh).1 (fun e => hne (by injection e))).trans hh, hrest⟩
theorem row_put {B k : Nat} {T U : TypeId} {W W' : World} {g : Nat} {cs : Array Value} (h : Row W g U cs) (hT : T ≠ U) (hp : Put B T k W W') : Row W' g U cs := by
  obtain ⟨g2, cs2, cs', _, hr, _, _, hg⟩ := hp
  exact h.grown hg (fun e => row_ne h hr (fun e => hT e.symm) (by injection e))
/-- What may be said of values, and bears both. -/
structure PrX (T : World → World → Prop) where
  dep : List Nat
  R : (Nat → Value) → World → Prop
  cong : ∀ xs ys W, (∀ k ∈ dep, xs k = ys k) → R xs W → R ys W
  st : ∀ xs W W', R xs W → T W W' → R xs W'
def TP (B n : Nat) (U : TypeId) (c : UInt8) (T : TypeId) (k : Nat) (W W' : World) : Prop := Turn B n U c W W' ∨ Put B T k W W'
def PrX.eq {T : World → World → Prop} (j : Nat) (c : Value) : PrX T := ⟨[j], fun xs _ => xs j = c, fun xs ys _ h e => (h j (by simp)).symm.trans e, fun _ _ _ h _ => h⟩
def VofX {T : World → World → Prop} (Vs : List (PrX T)) (j : Nat) (xs : Nat → Value) (W : World) : Prop := match Vs[j]? with
  | some p => p.R xs W
  | none => True
def depsB {T : World → World → Prop} (ops : Array Oper) (Vs : List (PrX T)) : Bool := (List.range Vs.length).all fun j => match Vs[j]? with
  | some p => p.dep.all fun k => k == j || waits ops j k
  | none => true
theorem VofX.st {T : World → World → Prop} {ops : Array Oper} {Vs : List (PrX T)} (hd : depsB ops Vs = true) : ∀ (i j : Nat) xs v W W', j ≠ i → waits ops j i = false → VofX Vs j xs W → T W W' → VofX Vs j (upd xs i v) W' := fun i j xs v W W' hne hw h hL => by
  unfold VofX at *
  cases hj : Vs[j]? with
  | none => trivial
  | some p =>
    rw [hj] at h
    refine p.cong xs _ W' (fun k hk => ?_) (p.st xs W W' h hL)
    have hjl : j < Vs.length := (List.getElem?_eq_some_iff.1 hj).1
    unfold depsB at hd
    rw [List.all_eq_true] at hd
    have h1 := hd j (List.mem_range.2 hjl)
    rw [hj] at h1
    simp only [List.all_eq_true] at h1
    have h2 := h1 k hk
    have hki : k ≠ i := fun e => by
      subst e
      rw [hw] at h2
      simp at h2
      exact hne h2.symm
    rw [upd_ne xs v hki]
section
variable (B n : Nat) (U : TypeId) (c : UInt8) (T : TypeId) (hTU : T ≠ U) (k j : Nat)
def PrX.own (m : Nat) (l : List UInt8) (hl : l.length ≤ n ∨ ∃ hi : n < l.length, l[n] = c) : PrX (TP B n U c T k) := ⟨[j], fun xs W => ∃ g cap, xs j = .slice (some ⟨g, 0, none⟩) m cap ∧ (m = 0 → cap = 0) ∧ Own U W B (.slice (some ⟨g, 0, none⟩) m cap) l,
  fun xs ys _ h ⟨g, cap, e, h2⟩ => ⟨g, cap, (h j (by simp)).symm.trans e, h2⟩, fun _ _ _ ⟨g, cap, e, h0, h⟩ ht => ⟨g, cap, e, h0, by rcases ht with ht | ht; exact own_turn h hl ht; exact own_put h hTU ht⟩⟩
def PrX.pre (l : List UInt8) (hl : l.length ≤ n ∨ ∃ hi : n < l.length, l[n] = c) : PrX (TP B n U c T k) := ⟨[j], fun xs W => ∃ g cap, xs j = .slice (some ⟨g, 0, none⟩) n cap ∧ Own U W B (.slice (some ⟨g, 0, none⟩) (n + 1) cap) l,
  fun xs ys _ h ⟨g, cap, e, h2⟩ => ⟨g, cap, (h j (by simp)).symm.trans e, h2⟩, fun _ _ _ ⟨g, cap, e, h⟩ ht => ⟨g, cap, e, by rcases ht with ht | ht; exact own_turn h hl ht; exact own_put h hTU ht⟩⟩
def PrX.one : PrX (TP B n U c T k) := ⟨[j], fun xs W => ∃ g, xs j = .slice (some ⟨g, 0, none⟩) 1 1 ∧ Row W g U #[byteV c],
  fun xs ys _ h ⟨g, e, h2⟩ => ⟨g, (h j (by simp)).symm.trans e, h2⟩, fun _ _ _ ⟨g, e, h⟩ ht => ⟨g, e, by rcases ht with ht | ht; exact row_turn1 h ht; exact row_put h hTU ht⟩⟩
def PrX.var : PrX (TP B n U c T k) := ⟨[j], fun xs W => ∃ g cs, xs j = .pointer (some ⟨g, 0, none⟩) ∧ B ≤ g ∧ cs.size = k ∧ Row W g T cs,
  fun xs ys _ h h3 => by obtain ⟨g, cs, e, h2⟩ := h3; exact ⟨g, cs, (h j (by simp)).symm.trans e, h2⟩, fun _ _ _ h3 ht => by
    obtain ⟨g, cs, e, hB, hs, h⟩ := h3
    rcases ht with ht | ⟨g2, cs2, cs', hB2, hr, hr', hs', hg⟩
    · exact ⟨g, cs, e, hB, hs, row_turn h (.inl hTU) ht⟩
    · by_cases eg : g = g2
      · subst eg; exact ⟨g, cs', e, hB, hs', hr'⟩
      · exact ⟨g, cs, e, hB, hs, h.grown hg (fun e => eg (by injection e))⟩⟩
end
theorem run_void (W : World) : (Instr.buildSlice 32 0 #[]).run Tryz.prog W = .ok (.slice (some ⟨W.heap.size, 0, none⟩) 0 0) (W.alloc (.cells #[] 5)) := by kernel_rfl
theorem run_one (x : Int) (W : World) : (Instr.buildSlice 32 1 #[(0, .int .u8 x)]).run Tryz.prog W = .ok (.slice (some ⟨W.heap.size, 0, none⟩) 1 1) (W.alloc (.cells #[.int .u8 x] 5)) := by kernel_rfl
theorem op_append_run {P : Program} {Q : Exit → Act → World → Prop} {o : Oper} {a : Act} {w : World} {K : Act → World → Prop} {s x : Operand} {t : TypeId} {vs vx v' : Value} {w' : World}
    (ho : o.op = .call { callee := .builtin .append, args := #[s, x], argTypes := #[t, t] }) (hs : a.eval s = vs) (hx : a.eval x = vx) (hr : (Builtin.append_ #[t, t] o.type #[vs, vx]).run P w = .ok v' w') (h : K (a.put o.dst v') w') : o.wp P a w K Q := by
  unfold Oper.wp execOp
  simp only [ho, resolve, invoke, builtin, Sem.run_bind, Sem.run_pure, Result.andThen_ok, List.map_toArray, List.map_cons, List.map_nil, hs, hx, hr]
  exact h
end Go.Proofs.YtcajhdmppfiaeaaGreat
namespace Go.Proofs.YtcajhdmppfiaeaaGreat
open Go.RowKit
section
variable {F : Fence} {n : Nat} {P : Program}
theorem wpIn_range_D {α : Type} {g : Operand} {ps : Array Tmp} {assign body : Code} {Q : Exit → Act → World → Prop} {a : Act} {w : World}
    (hro : F.round = none) (h1 : 1 ≤ n) {gf : Nat} {lb : Array Value} (hg : a.eval g = .func (.func gf) #[] lb) (hFg : F.fn gf) (eg : ∀ args w, (callFunc gf args).run P w = .ok (.enter gf args) w)
    {encs : α → Array Value} {Kp : World → World → Prop} {S Sp : List α → Prop} {Ok : List α → α → Prop} {C : Nat → Prop} {w0 : World} (hseq : SeqC F (n - 1) P gf lb encs Kp S Sp Ok C w0)
    (hC : ∀ r, C r → r < w.heap.size) (hKt : ∀ {A B D : World}, Kp A B → Kp B D → Kp A D) (hKb : ∀ (W : World) (l : Nat) (o ob : Obj), w.heap.size ≤ l → W.heap[l]? = some ob → ob.isCells = false → Kp W (W.putObj l o)) (hb0 : Below w0.heap.size w0 w) (hps : ∀ x, (encs x).size = ps.size)
    (I : List α → World → Prop) (Ix : Code → List α → World → Prop) (hI : Stab w.heap.size C I) (hIx : ∀ c, Stab w.heap.size C (Ix c)) (h0 : I [] w)
    (Ax : List α → α → Act → World → Prop) (hAx : ∀ pre x a', Stab w.heap.size C (fun (_ : Unit) W => Ax pre x a' W))
    (hassign : ∀ (l : Nat) (pre : List α) (x : α) (W : World) (K : Act → World → Prop), I pre W → Ok pre x → (∀ a' Y, KeepsFrom w.heap.size W Y → Kp W Y → I pre Y → Ax pre x a' Y → K a' Y) →
      assign.wpIn (F.inRound l) (n - 1 - 1) P (Exit.then K (fun _ _ _ => False)) { tmps := (ps.zip (encs x)).foldl (fun t (p, v) => t.setIfInBounds p v) a.tmps, defers := [] } W)
    (hbody : ∀ (l : Nat) (pre : List α) (x : α) (a' : Act) (W : World), w.heap.size ≤ l → (∃ r, W.heap[l]? = some (.loop r)) → I pre W → Ok pre x → Ax pre x a' W → body.wpIn (F.inRound l) (n - 1 - 1) P (leftC w.heap.size Kp I Ix (pre ++ [x]) W) a' W)
    (hdone : ∀ (D : Nat) (xs : List α) (W : World), w.heap.size ≤ D → S xs → I xs W → W.heap[D]? = some (.deferred (some [])) → Q .normal { a with defers := { target := .collected D, args := #[] } :: a.defers } W)
    (hstop : ∀ (D : Nat) (c : Code) (pre : List α) (W : World), w.heap.size ≤ D → Sp pre → Ix c pre W → W.heap[D]? = some (.deferred (some [])) → c.wpIn F n P Q { a with defers := { target := .collected D, args := #[] } :: a.defers } W) :
    (Code.rangeFunc g ps assign body).wpIn F n P Q a w := by
  refine wpIn_rangeFunc fun fn hfn => ?_
  rw [hro]
  have book1 : Booked (bookOf fn a.tmps ps assign body w.heap.size) w.heap.size .ready none ((w.alloc (.deferred (some []))).alloc (.loop (bookOf fn a.tmps ps assign body w.heap.size .ready none))) := by
    refine ⟨?_, (Below.heap_alloc _ _ _ (by simp)).trans (World.alloc_heap_new w _)⟩
    have := World.alloc_heap_new (w.alloc (.deferred (some []))) (.loop (bookOf fn a.tmps ps assign body w.heap.size .ready none))
    rwa [World.size_alloc] at this
  have hb1 : Below w0.heap.size w0 ((w.alloc (.deferred (some []))).alloc (.loop (bookOf fn a.tmps ps assign body w.heap.size .ready none))) :=
    hb0.trans ((((Below.refl _ w).alloc (Nat.le_refl _) _).alloc (by simp) _).mono hb0.size)
  have hi1 := hI.alloc (.loop (bookOf fn a.tmps ps assign body w.heap.size .ready none)) (hI.alloc (.deferred (some [])) h0)
  have henter := run_enterLoop_outer (P := P) (w := w) fn a.tmps ps assign body
  generalize hW1 : (w.alloc (.deferred (some []))).alloc (.loop (bookOf fn a.tmps ps assign body w.heap.size .ready none)) = W1 at book1 hb1 hi1
  refine ⟨w.heap.size + 1, [{ target := .collected w.heap.size, args := #[] }], W1, { target := .fn (.func gf) lb, args := #[.func (.yield (w.heap.size + 1)) #[] #[]] }, W1, gf,
    #[.func (.yield (w.heap.size + 1)) #[] #[]] ++ lb, W1, ?_, ?_, ?_, ?_, fun _ => h1, ?_⟩
  · rw [← hW1]; exact henter
  · simp only [resolve, hg]; simp [go_sem]
  · intro f' hf'; simp [Target.leads] at hf'; subst hf'; exact hFg
  · simp [invoke, go_sem, eg]
  clear henter hW1
  refine (hseq (w.heap.size + 1) (fun pre W => I pre W ∧ Booked (bookOf fn a.tmps ps assign body w.heap.size) w.heap.size .ready none W)
    (fun pre W => ∃ c, Ix c pre W ∧ Booked (bookOf fn a.tmps ps assign body w.heap.size) w.heap.size .done (some c) W) W1 hb1
    (fun s X Y row hs hgr hr => ⟨hI.abC s X Y row hs.1 hgr hr, hs.2.grown hgr (fun r e => hC r (hr r e))⟩)
    (fun s X Y row hs hgr hr => by obtain ⟨c, hc, hk⟩ := hs; exact ⟨c, (hIx c).abC s X Y row hc hgr hr, hk.grown hgr (fun r e => hC r (hr r e))⟩)
    (fun pre x X hX hok => ?_) ⟨hi1, book1⟩).mono ?_
  · obtain ⟨hi, hbk⟩ := hX
    refine ⟨fn, _, assign, body, run_yield (P := P) (args := encs x) hbk.loop (hps x), roundIn_of_wpIn hfn (hassign _ pre x X _ hi hok ?_)⟩
    intro a' Y hkf hkp hiY hax
    have hbY := hbk.keeps hkf
    refine ⟨_, run_beginRound hbY.loop rfl, ?_⟩
    have hbZ : Booked (bookOf fn a.tmps ps assign body w.heap.size) w.heap.size .busy none (Y.putObj (w.heap.size + 1) (.loop { bookOf fn a.tmps ps assign body w.heap.size .ready none with state := .busy })) := hbY.turn
    refine wpIn_mono (hbody _ pre x a' _ (by omega) ⟨_, hbZ.loop⟩ (hI.put _ hiY (by omega) hbY.loop rfl) hok ((hAx pre x a').put (s := ()) _ hax (by omega) hbY.loop rfl)) ?_
    have fin : ∀ (jump : Option Code) (Z : World), KeepsFrom w.heap.size (Y.putObj (w.heap.size + 1) (.loop { bookOf fn a.tmps ps assign body w.heap.size .ready none with state := .busy })) Z →
        (Instr.endRound (w.heap.size + 1) jump).run P Z = .ok (.bool jump.isNone) (Z.putObj (w.heap.size + 1) (.loop (bookOf fn a.tmps ps assign body w.heap.size (if jump.isNone then .ready else .done) jump))) ∧
        Booked (bookOf fn a.tmps ps assign body w.heap.size) w.heap.size .busy none Z := fun jump Z hkZ =>
      ⟨run_endRound (P := P) jump (hbZ.keeps hkZ).loop, hbZ.keeps hkZ⟩
    rintro e a3 Z hp
    cases e with
    | normal =>
      obtain ⟨hk3, hkp3, hi3⟩ := hp
      obtain ⟨hr, hb3⟩ := fin none Z hk3
      exact ⟨_, _, hr, .inl ⟨rfl, ⟨hI.put _ hi3 (by omega) hb3.loop rfl, hb3.turn⟩, hKt hkp (hKt (hKt (hKb _ _ _ _ (by omega) hbY.loop rfl) hkp3) (hKb _ _ _ _ (by omega) hb3.loop rfl))⟩⟩
    | ret =>
      obtain ⟨hk3, hi3⟩ := hp
      obtain ⟨hr, hb3⟩ := fin (some .ret) Z hk3
      exact ⟨_, _, hr, .inr ⟨rfl, .ret, (hIx _).put _ hi3 (by omega) hb3.loop rfl, hb3.turn⟩⟩
    | exit id =>
      obtain ⟨hk3, hi3⟩ := hp
      obtain ⟨hr, hb3⟩ := fin (some (.exit id)) Z hk3
      exact ⟨_, _, hr, .inr ⟨rfl, .exit id, (hIx _).put _ hi3 (by omega) hb3.loop rfl, hb3.turn⟩⟩
    | goto t =>
      obtain ⟨hk3, hi3⟩ := hp
      obtain ⟨hr, hb3⟩ := fin (some (.goto t)) Z hk3
      exact ⟨_, _, hr, .inr ⟨rfl, .goto t, (hIx _).put _ hi3 (by omega) hb3.loop rfl, hb3.turn⟩⟩
    | panic ch => exact hp.elim
    | outgrown => exact hp.elim
  · rintro e W2 ⟨⟨v, rfl⟩, (⟨xs, hS, hi, hbk⟩ | ⟨pre, hSp, c, hi, hbk⟩)⟩
    · exact ⟨none, _, run_endLoop (P := P) hbk.loop (by simp [bookOf]), hdone _ xs _ (Nat.le_refl _) hS (hI.put _ hi (by omega) hbk.loop rfl) ((World.putObj_heap_other (by omega)).trans hbk.defs)⟩
    · exact ⟨some c, _, run_endLoop (P := P) hbk.loop (by simp [bookOf]), hstop _ c pre _ (Nat.le_refl _) hSp ((hIx c).put _ hi (by omega) hbk.loop rfl) ((World.putObj_heap_other (by omega)).trans hbk.defs)⟩
end
end Go.Proofs.YtcajhdmppfiaeaaGreat
namespace Go.Proofs.YtcajhdmppfiaeaaGreat
open Go.RowKit
/-- A slice of the call's own that reads as these bytes; what is frozen of its row lies behind it. -/
def OwnQ (U : TypeId) (w : World) (base : Nat) (v : Value) (l : List UInt8) : Prop :=
  ∃ g cap cur, ∃ fr : Nat × Nat, v = .slice (some ⟨g, 0, none⟩) l.length cap ∧ base ≤ g ∧ w.heap[g]? = some (.cells cur U fr) ∧ (∀ i, i < cur.size → ¬ (fr.1 ≤ i ∧ i < fr.2)) ∧ l.length ≤ cap ∧ cap ≤ maxLen ∧ cur.size = cap ∧ cur.toList.take l.length = l.map byteV
section
variable {U : TypeId} {w w' : World} {base : Nat} {v : Value} {l : List UInt8}
theorem OwnQ.keep (h : OwnQ U w base v l) (hk : ∀ b, b < w.heap.size → v.ownBlock = some b → w'.heap[b]? = w.heap[b]?) : OwnQ U w' base v l := by
  obtain ⟨g, cap, cur, fr, rfl, h1, h2, h3⟩ := h
  exact ⟨g, cap, cur, fr, rfl, h1, by rw [hk g (Array.getElem?_eq_some_iff.1 h2).1 rfl]; exact h2, h3⟩
theorem OwnQ.below (h : OwnQ U w base v l) (hb : Below w.heap.size w w') : OwnQ U w' base v l := h.keep fun b hb' _ => hb.block b hb'
theorem OwnQ.at_ (h : OwnQ U w base v l) : ∀ k, v.ownBlock = some k → base ≤ k ∧ k < w.heap.size := by
  obtain ⟨g, cap, cur, fr, rfl, h1, h2, h3⟩ := h
  intro k e
  simp [Value.ownBlock] at e
  subst e
  exact ⟨h1, (Array.getElem?_eq_some_iff.1 h2).1⟩
theorem OwnQ.slice (h : OwnQ U w base v l) : ∃ g c, v = .slice (some ⟨g, 0, none⟩) l.length c ∧ l.length ≤ c ∧ c ≤ 9223372036854775807 ∧ base ≤ g ∧ Rd w (some ⟨g, 0, none⟩) l := by
  obtain ⟨g, cap, cur, fr, rfl, h1, h2, h3, h4, h5, h6, h7⟩ := h
  refine ⟨g, cap, rfl, h4, by unfold maxLen at h5; omega, h1, fun _ => ⟨g, 0, rfl, fun i hi => ?_⟩⟩
  rw [cell_of_row w g (0 + i) cur U fr h2, Nat.zero_add]
  have : (cur.toList.take l.length)[i]? = (l.map byteV)[i]? := by rw [h7]
  rw [List.getElem?_take_of_lt hi, Array.getElem?_toList, List.getElem?_map, List.getElem?_eq_getElem hi] at this
  exact this
end
theorem conv_own (w : World) (l : List UInt8) (hl : l.length ≤ 9223372036854775807) : ∃ W cap, (convert 9 32 (.string ⟨l.toArray⟩)).run Tryz.prog w = .ok (.slice (some ⟨w.heap.size, 0, none⟩) l.length cap) W ∧ OwnQ 5 W w.heap.size (.slice (some ⟨w.heap.size, 0, none⟩) l.length cap) l ∧ Later w W := by
  refine ⟨_, _, Lib.run_convert_string_bytes (P := Tryz.prog) w 9 32 5 ⟨l.toArray⟩ Tryz.underlying9 Tryz.underlying32 Tryz.underlying5, ⟨w.heap.size, _, _, _, rfl, Nat.le_refl _, Lib.bytesWorld_at_new _ _ _, fun i hi h => ?_, grownCap_ge _ _ _ _, grownCap_le_maxLen w l.length 0 5 (by unfold maxLen; exact hl), ?_, ?_⟩, ⟨rfl, rfl, rfl, by rw [Lib.bytesWorld_size]; omega, fun b hb => Lib.bytesWorld_at_old _ _ _ b hb⟩⟩
  · omega
  · have h1 := grownCap_ge w l.length 0 5
    have e : (ByteArray.mk l.toArray).size = l.length := by simp [ByteArray.size]
    rw [Lib.bytesCells, Array.size_append, Array.size_map, Array.size_replicate, e]
    simp
    omega
  · simp [Lib.bytesCells]
theorem take_pushed (l : List UInt8) (c : UInt8) (X : List Value) : List.take (l ++ [c]).length (l.map byteV ++ byteV c :: X) = (l ++ [c]).map byteV := by
  have e : l.map byteV ++ byteV c :: X = (l.map byteV ++ [byteV c]) ++ X := by simp
  rw [e, show (l ++ [c]).length = (l.map byteV ++ [byteV c]).length from by simp, List.take_left]
  simp
end Go.Proofs.YtcajhdmppfiaeaaGreat
