/- append of noughts onto a slice of one byte; copy into a row of one's own. -/
import Derived.Test.YtfconncnccgenaaLater
import Derived.Lib.AppendZeros
import Derived.Laws.CopyOwn
set_option linter.unusedVariables false
set_option linter.unusedSimpArgs false
namespace Go.Proofs.Ytfconncnccgenaa
open Go.RowKit Go.Builtin
theorem run_append_zeros1 {P : Program} (w : World) (g : Nat) (c0 : UInt8) (t tn ty e : TypeId) (kn : IntKind) (ht : P.underlying t = some (.slice e)) (htn : P.underlying tn = some (.int kn)) (hi : ByteInfo P e) (hrow : Row w g e #[byteV c0])
    (n : Nat) (h0 : 0 < n) (hm : n ≤ 1000000) :
    ∃ cap, 1 + n ≤ cap ∧ cap ≤ maxLen ∧ (Builtin.append_ #[t, tn] ty #[.slice (some ⟨g, 0, none⟩) 1 1, .int kn n]).run P w =
      .ok (.slice (some ⟨w.heap.size, 0, none⟩) (1 + n) cap) (w.drew.alloc (.cells (#[byteV c0] ++ Builtin.zeroCells #[.int .u8 0] n ++ Builtin.zeroCells #[.int .u8 0] (cap - (1 + n))) e)) := by
  obtain ⟨i, hi0, hz, hs, hb⟩ := info_parts hi
  have hn : n ≠ 0 := by omega
  have hw : IntKind.i64.wrap (n : Int) = n := by rw [IntKind.wrap_i64]; omega
  have hc : w.cell? ⟨g, 0, none⟩ = some (byteV c0) := (hrow.cell 0).trans rfl
  have h63' : ¬ (9223372036854775807 < 1 + (n : Int)) := by omega
  have h48i : ¬ (281474976710656 < (n : Int)) := by omega
  have hneg : ¬ ((n : Int) < 0) := by omega
  have hgt : ¬ (1 + n ≤ 1) := by omega
  refine ⟨grownCap w (1 + n) 1 e, grownCap_ge w _ _ _, grownCap_le_maxLen w _ _ _ (by unfold maxLen; omega), ?_⟩
  have h48' : ¬ (281474976710656 < Builtin.nextslicecap (1 + n) 1) := by
    have := nextslicecap_le (need := 1 + n) (old := 1) (by omega)
    omega
  have hfc : (firstCells 1 1 (.slice (some ⟨g, 0, none⟩) 1 1)).run P w.drew = .ok #[byteV c0] w.drew := by
    refine run_firstCells_some (P := P) w.drew 1 1 ⟨g, 0, none⟩ 1 1 [byteV c0] rfl fun j v hv => ?_
    rcases j with _ | j
    · simp at hv
      subst hv
      rw [show (⟨g, 0, none⟩ : Addr).add 0 = ⟨g, 0, none⟩ from rfl]
      exact hc
    · simp at hv
  simp [Builtin.append_, run_underlying ht, run_underlying htn, sizeOf, typeInfo, zeroValue, hi0, hz, hs, hb, asInt, asIntOf, hw, hn, hneg, hgt, h63', h48', h48i, Question.forced, newRow, grownCap, hfc]
  rfl
theorem zeroCells_list (n : Nat) : Builtin.zeroCells #[.int .u8 0] n = ((List.replicate n (0 : UInt8)).map byteV).toArray := by
  apply Array.ext_getElem?
  intro i
  unfold Builtin.zeroCells
  by_cases h : i < n
  · simp [h, Nat.mod_one]
  · simp [h]
/-- copy of bytes into a row. -/
theorem setRow_setFrom (cur : Array Value) (off : Nat) (cs : List Value) (h : off + cs.length ≤ cur.size) : (cur.toList.take off ++ (cs ++ cur.toList.drop (off + cs.length))).toArray = setFrom cur off cs := by
  apply Array.ext_getElem?
  intro i
  rw [setFrom_get cs off cur i h, List.getElem?_toArray]
  by_cases h1 : i < off
  · rw [if_neg (by omega), List.getElem?_append_left (by simp; omega), List.getElem?_take_of_lt h1, Array.getElem?_toList]
  · rw [List.getElem?_append_right (by simp; omega), List.length_take, show min off cur.toList.length = off from by rw [Array.length_toList]; omega]
    by_cases h2 : i < off + cs.length
    · rw [if_pos (by omega), List.getElem?_append_left (by omega)]
    · rw [if_neg (by omega), List.getElem?_append_right (by omega), List.getElem?_drop, Array.getElem?_toList]
      congr 1
      omega
theorem wpList_copy_rd {P : Program} {w : World} {ops : Array Oper} {rest : List Oper} {o : Oper} {a : Act} {Q : Exit → Act → World → Prop} (hgd : o.guard = none) (d s : Operand) (dT sT : TypeId)
    (ho : o.op = .call { callee := .builtin .copy, args := #[d, s], argTypes := #[dT, sT] }) (elem : TypeId) (hu : P.underlying dT = some (.slice elem)) (hsz : (P.info? elem).map (·.size) = some 1)
    (g off dLen dCap : Nat) (A : Option Addr) (n c : Nat) (l : List UInt8) (hl : l.length = n) (hrd : Rd w A l) (hd : a.eval d = .slice (some ⟨g, off, none⟩) dLen dCap) (hs : a.eval s = .slice A n c)
    (cur : Array Value) (t : TypeId) (hg : Row w g t cur) (m : Nat) (hm : min n dLen = m) (hfit : off + m ≤ cur.size)
    (h : ∀ w', Row w' g t (setFrom cur off ((l.take m).map byteV)) → w.grownBy w' (some g) → wpList P ops Q rest (a.put o.dst (.int .i64 (m : Int))) w') : wpList P ops Q (o :: rest) a w := by
  have hcl : ((l.take m).map byteV).length = m := by rw [List.length_map, List.length_take]; omega
  rcases A with _ | ad
  · have hk : l = [] := by
      rcases l with _ | ⟨x, k⟩
      · rfl
      · obtain ⟨b, o, e, _⟩ := hrd (by simp)
        cases e
    subst hk
    subst hl
    have h0 : m = 0 := by simpa using hm.symm
    subst h0
    exact wpList_copy_nothing hgd d s dT sT ho elem hu hsz _ _ _ _ _ _ hd hs (by simp [Nat.min_def]) (h w (by simpa [setFrom] using hg) (grown_refl w _))
  · refine wpList_copy_own hgd d s dT sT ho elem hu hsz g off dLen dCap ad n c hd hs cur t hg ((l.take m).map byteV) (by rw [hcl]; exact hm.symm) (fun j v hv => ?_) (by rw [hcl]; exact hfit) (fun v hv => by obtain ⟨x, _, rfl⟩ := List.mem_map.1 hv; rfl) ?_
    · have hj : j < m := by
        rcases Nat.lt_or_ge j m with h | h
        · exact h
        · rw [List.getElem?_eq_none (by omega)] at hv; cases hv
      have hjl : j < l.length := by omega
      obtain ⟨b, o, e, hc⟩ := hrd (by intro e; subst e; simp at hjl)
      injection e with e
      subst e
      rw [List.getElem?_map, List.getElem?_take_of_lt hj, List.getElem?_eq_getElem hjl, Option.map_some] at hv
      rw [← Option.some.inj hv, ← hc j hjl]
      rcases Nat.eq_zero_or_pos j with rfl | hp
      · rfl
      · simp [Addr.add, Nat.ne_of_gt hp]
    · rw [setRow_setFrom _ _ _ (by rw [hcl]; exact hfit), show goInt ((l.take m).map byteV).length = .int .i64 (m : Int) from by rw [hcl]; rfl]
      exact h _ (setRow_heap w g _ _ t _ hg) ⟨rfl, rfl, rfl, by simp [World.setRow], fun k hk hn => setRow_other w g k _ (fun e => hn (by rw [e]))⟩
theorem op_copy_rd {P : Program} {w : World} {o : Oper} {a : Act} {K : Act → World → Prop} {Q : Exit → Act → World → Prop} (d s : Operand) (dT sT : TypeId)
    (ho : o.op = .call { callee := .builtin .copy, args := #[d, s], argTypes := #[dT, sT] }) (elem : TypeId) (hu : P.underlying dT = some (.slice elem)) (hsz : (P.info? elem).map (·.size) = some 1)
    (g off dLen dCap : Nat) (A : Option Addr) (n c : Nat) (l : List UInt8) (hl : l.length = n) (hrd : Rd w A l) (hd : a.eval d = .slice (some ⟨g, off, none⟩) dLen dCap) (hs : a.eval s = .slice A n c)
    (cur : Array Value) (t : TypeId) (hg : Row w g t cur) (m : Nat) (hm : min n dLen = m) (hfit : off + m ≤ cur.size)
    (h : ∀ w', Row w' g t (setFrom cur off ((l.take m).map byteV)) → w.grownBy w' (some g) → K (a.put o.dst (.int .i64 (m : Int))) w') : o.wp P a w K Q := by
  have hcl : ((l.take m).map byteV).length = m := by rw [List.length_map, List.length_take]; omega
  rcases A with _ | ad
  · have hk : l = [] := by
      rcases l with _ | ⟨x, k⟩
      · rfl
      · obtain ⟨b, o, e, _⟩ := hrd (by simp)
        cases e
    subst hk
    subst hl
    have h0 : m = 0 := by simpa using hm.symm
    subst h0
    have hrun := run_copy_none (P := P) w dT sT o.type elem (some ⟨g, off, none⟩) none dLen dCap ([] : List UInt8).length c hu hsz (by simp [Nat.min_def])
    unfold Oper.wp
    simp only [execOp, ho, resolve, invoke, builtin, hd, hs, hrun, Sem.run_bind, Sem.run_pure, Result.andThen_ok, List.map_toArray, List.map_cons, List.map_nil]
    exact h w (by simpa [setFrom] using hg) (grown_refl w _)
  · have hrun := run_copy_row (P := P) w dT sT o.type elem g off dLen dCap ad n c cur t ((l.take m).map byteV) hu hsz hg (by rw [hcl]; exact hm.symm) (fun j v hv => by
      have hj : j < m := by
        rcases Nat.lt_or_ge j m with h | h
        · exact h
        · rw [List.getElem?_eq_none (by omega)] at hv; cases hv
      have hjl : j < l.length := by omega
      obtain ⟨b, o, e, hc⟩ := hrd (by intro e; subst e; simp at hjl)
      injection e with e
      subst e
      rw [List.getElem?_map, List.getElem?_take_of_lt hj, List.getElem?_eq_getElem hjl, Option.map_some] at hv
      rw [← Option.some.inj hv, ← hc j hjl]
      rcases Nat.eq_zero_or_pos j with rfl | hp
      · rfl
      · simp [Addr.add, Nat.ne_of_gt hp]) (by rw [hcl]; exact hfit) (fun v hv => by obtain ⟨x, _, rfl⟩ := List.mem_map.1 hv; rfl)
    rw [List.append_assoc, setRow_setFrom _ _ _ (by rw [hcl]; exact hfit), show goInt ((l.take m).map byteV).length = .int .i64 (m : Int) from by rw [hcl]; rfl] at hrun
    unfold Oper.wp
    simp only [execOp, ho, resolve, invoke, builtin, hd, hs, hrun, Sem.run_bind, Sem.run_pure, Result.andThen_ok, List.map_toArray, List.map_cons, List.map_nil]
    exact h _ (setRow_heap w g _ _ t _ hg) ⟨rfl, rfl, rfl, by simp [World.setRow], fun k hk hn => setRow_other w g k _ (fun e => hn (by rw [e]))⟩
/-- append of noughts onto a slice of one byte. -/
theorem append_z {P : Program} (w : World) (g : Nat) (c0 : UInt8) (t tn ty e : TypeId) (kn : IntKind) (ht : P.underlying t = some (.slice e)) (htn : P.underlying tn = some (.int kn)) (hi : ByteInfo P e) (hrow : Row w g e #[byteV c0])
    (n : Nat) (hm : n ≤ 1000000) :
    ∃ ad c w', (Builtin.append_ #[t, tn] ty #[.slice (some ⟨g, 0, none⟩) 1 1, .int kn n]).run P w = .ok (.slice (some ad) (1 + n) c) w' ∧ Rd w' (some ad) (c0 :: List.replicate n (0 : UInt8)) ∧ 1 + n ≤ c ∧ c ≤ maxLen ∧ Later w w' ∧ (ad.block = g ∨ ad.block = w.heap.size) := by
  obtain ⟨i, hi0, hz, hs, hb⟩ := info_parts hi
  rcases Nat.eq_zero_or_pos n with rfl | h0
  · refine ⟨⟨g, 0, none⟩, 1, w, ?_, ?_, by omega, by unfold maxLen; omega, Later.refl w, .inl rfl⟩
    · have hw : IntKind.i64.wrap (((0 : Nat) : Int)) = 0 := by decide
      simp [Builtin.append_, run_underlying ht, run_underlying htn, sizeOf, typeInfo, zeroValue, hi0, hz, hs, hb, asInt, asIntOf, storeCells]
      rfl
    · exact fun _ => ⟨g, 0, rfl, fun i hi' => by
        rw [hrow.cell]
        have : i = 0 := by simpa using hi'
        subst this
        rfl⟩
  · obtain ⟨cap, hcap, hcm, hrun⟩ := run_append_zeros1 w g c0 t tn ty e kn ht htn hi hrow n h0 hm
    refine ⟨_, _, _, hrun, ?_, hcap, hcm, ((Later.refl w).drew).alloc _, .inr rfl⟩
    rw [zeroCells_list, zeroCells_list]
    have e : #[byteV c0] ++ ((List.replicate n (0 : UInt8)).map byteV).toArray ++ ((List.replicate (cap - (1 + n)) (0 : UInt8)).map byteV).toArray = ((c0 :: List.replicate n (0 : UInt8)).map byteV ++ (List.replicate (cap - (1 + n)) (0 : UInt8)).map byteV).toArray := by simp
    rw [e]
    refine fun _ => ⟨w.heap.size, 0, rfl, fun i hi' => ?_⟩
    rw [show w.heap.size = w.drew.heap.size from rfl, (Row.new w.drew _ _).cell, Nat.zero_add, List.getElem?_toArray, List.getElem?_append_left (by simpa using hi'), List.getElem?_map, List.getElem?_eq_getElem hi']
    rfl
end Go.Proofs.Ytfconncnccgenaa
