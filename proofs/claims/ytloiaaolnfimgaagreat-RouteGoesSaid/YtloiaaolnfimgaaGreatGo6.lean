/- Joined texts: Rv6. -/
import Derived.Test.YtloiaaolnfimgaaGreatGo5
set_option linter.unusedVariables false
set_option linter.unusedSimpArgs false
set_option maxRecDepth 100000
set_option maxHeartbeats 32000000
namespace Go.Proofs.YtloiaaolnfimgaaGreat
open Go.RowKit
section
variable {P : Program} {Q : Exit -> Act -> World -> Prop}
theorem stepOkY_mono {ops : Array Oper} {o : Oper} {a : Act} {W : World} {R R' : Value -> World -> Prop} (hR : ∀ v W', R v W' -> R' v W') (h : StepOkY P ops Q o a W R) : StepOkY P ops Q o a W R' := by
 unfold StepOkY at h ⊢
 split
 ·rename_i hw
  rw [if_pos hw] at h
  exact Oper.wp_mono (fun a' W' ⟨v, e, hv⟩ => ⟨v, e, hR v W' hv⟩) h
 ·rename_i hw
  rw [if_neg hw] at h
  exact hR _ _ h
def PivStepG (P : Program) (ops : Array Oper) (Q : Exit -> Act -> World -> Prop) (a0 : Act) (p : Nat) (c : Nat -> Value) (A : World -> Prop) (B : Value -> World -> Prop) (i : Nat) (o : Oper) : Prop :=
 match i == p with
 | true => ∀ a W, EnvP ops a0 p c A B i a W false undef -> A W -> StepOkY P ops Q o a W (fun v W' => B v W')
 | false => ∀ a W d x, EnvP ops a0 p c A B i a W d x -> StepOk P ops Q o a W (fun v W' => v = c i)
theorem wpIn_region_pivG {F : Fence} (hF : Wide F) {n : Nat} {id : Nat} {o : Oper} {os : List Oper} {a0 : Act} {w : World} (p : Nat) (cs : List Value) (A : World -> Prop) (B : Value -> World -> Prop) (hA : ∀ W W', Later W W' -> A W -> A W') (hB : ∀ x W W', Later W W' -> B x W -> B x W') (hA0 : A w) (hm : P.follows .mixedOrders = true) (hp : plainAll (o :: os).toArray = true) (hd : dstsB (o :: os).toArray = true) (hb : backB (o :: os).toArray = true) (ha : ancB (o :: os).toArray = true) (hin : dstIn (o :: os).toArray a0.tmps.size = true) (hg : (lastL o os).guard = none) (hpl : decide (p < (initL o os).length) = true) (hself : waits (o :: os).toArray p p = false)
  (step : AllFrom (PivStepG P (o :: os).toArray Q a0 p (fun i => cs.getD i undef) A B) 0 (initL o os))
  (fin : ∀ xs W x, B x W -> (∀ j, j < (initL o os).length -> xs j = if j = p then x else cs.getD j undef) -> (∀ y, keepsB (o :: os).toArray (initL o os).length y = true -> (putL (initL o os) 0 xs a0).eval y = a0.eval y) -> (∀ j t, j < (initL o os).length -> dstOf (o :: os).toArray j = some t -> (putL (initL o os) 0 xs a0).eval (.tmp t) = xs j) ->
   LastOk P (lastL o os) (putL (initL o os) 0 xs a0) W Q) : (Code.region id (o :: os).toArray true).wpIn F n P Q a0 w := by
 have hpl' := of_decide_eq_true hpl
 refine wpIn_region_lastY hF (fun f xs W => (∀ i, f i = true -> i ≠ p -> xs i = cs.getD i undef) /\ (f p = false -> A W) /\ (f p = true -> B (xs p) W)) ⟨fun i h => by simp at h, fun _ => hA _ _ ((Later.refl w).drew) hA0, fun h => by simp at h⟩ hm hp hd hb ha hin hg ?_ ?_
 ·have key : ∀ (l : List Oper) (i : Nat), AllFrom (PivStepG P (o :: os).toArray Q a0 p (fun i => cs.getD i undef) A B) i l -> AllFrom (fun i o' => ∀ a W f xs, ((∀ i, f i = true -> i ≠ p -> xs i = cs.getD i undef) /\ (f p = false -> A W) /\ (f p = true -> B (xs p) W)) -> EnvY (o :: os).toArray a0 f i a xs -> StepOkY P (o :: os).toArray Q o' a W (fun v W' => (∀ j, updB f i j = true -> j ≠ p -> upd xs i v j = cs.getD j undef) /\ (updB f i p = false -> A W') /\ (updB f i p = true -> B (upd xs i v p) W'))) i l := by
   intro l
   induction l with
   | nil => intro i h; exact h
   | cons o' l ih =>
    intro i h
    obtain ⟨h1, h2⟩ := h
    refine ⟨fun a W f xs hI he => ?_, ih _ h2⟩
    obtain ⟨hc, ha1, hb1⟩ := hI
    by_cases hip : i = p
    ·subst hip
     have h3 : ∀ a W, EnvP (o :: os).toArray a0 i (fun i => cs.getD i undef) A B i a W false undef -> A W -> StepOkY P (o :: os).toArray Q o' a W (fun v W' => B v W') := by
      unfold PivStepG at h1
      rw [beq_self_eq_true] at h1
      exact h1
     have hf := he.todo
     have h4 := h3 a W ⟨he.keep, fun j t hw ht hj => (he.val j t hw ht).trans (hc j (he.done j hw) (by simpa using hj)), fun t hw _ => (by rw [hself] at hw; cases hw), fun _ => ha1 hf, (by intro h; cases h), (by intro hw; rw [hself] at hw; cases hw), he.defers⟩ (ha1 hf)
     refine stepOkY_mono (fun v W' hv => ⟨fun j hj hjp => ?_, fun h => ?_, fun _ => ?_⟩) h4
     ·rw [upd_ne xs v hjp]
      refine hc j ?_ hjp
      simpa [updB, hjp] using hj
     ·simp [updB] at h
     ·rw [upd_self]; exact hv
    ·have h3 : ∀ a W d x, EnvP (o :: os).toArray a0 p (fun i => cs.getD i undef) A B i a W d x -> StepOk P (o :: os).toArray Q o' a W (fun v W' => v = cs.getD i undef) := by
      unfold PivStepG at h1
      rw [show (i == p) = false by simpa using hip] at h1
      exact h1
     have h4 := h3 a W (f p) (xs p) ⟨he.keep, fun j t hw ht hj => (he.val j t hw ht).trans (hc j (he.done j hw) (by simpa using hj)), fun t hw ht => he.val p t hw ht, ha1, hb1, fun hw => he.done p hw, he.defers⟩
     have hpi : p ≠ i := fun e => hip e.symm
     have hR : ∀ v W', Later W W' -> v = cs.getD i undef -> (∀ j, updB f i j = true -> j ≠ p -> upd xs i v j = cs.getD j undef) /\ (updB f i p = false -> A W') /\ (updB f i p = true -> B (upd xs i v p) W') := fun v W' hL hv => by
      refine ⟨fun j hj hjp => ?_, fun h => ?_, fun h => ?_⟩
      ·by_cases e : j = i
       ·subst e; rw [upd_self]; exact hv
       ·rw [upd_ne xs v e]
        exact hc j (by simpa [updB, e] using hj) hjp
      ·exact hA _ _ hL (ha1 (by simpa [updB, hpi] using h))
      ·rw [upd_ne xs v hpi]
       exact hB _ _ _ hL (hb1 (by simpa [updB, hpi] using h))
     unfold StepOk at h4
     unfold StepOkY
     split
     ·rename_i hw
      rw [if_pos hw] at h4
      exact Oper.wp_mono (fun a' W' ⟨v, e, hL, hv⟩ => ⟨v, e, hR v W' hL hv⟩) h4
     ·rename_i hw
      rw [if_neg hw] at h4
      exact hR _ _ (Later.refl W) h4
  exact key _ _ step
 ·intro f xs W hI hall _ hk hget
  obtain ⟨hc, _, hb1⟩ := hI
  refine fin xs W (xs p) (hb1 (hall p hpl')) (fun j hj => ?_) hk hget
  by_cases e : j = p
  ·rw [if_pos e, e]
  ·rw [if_neg e]; exact hc j (hall j hj) e
end
section
variable {P : Program} {Q : Exit -> Act -> World -> Prop}
structure EnvV (ops : Array Oper) (a0 : Act) (c : Nat -> Value) (so : List Nat) (rs : List Value) (i : Nat) (a : Act) : Prop where
 keep : ∀ y, keepsB ops i y = true -> a.eval y = a0.eval y
 val : ∀ j t, waits ops i j = true -> dstOf ops j = some t -> so.contains j = false -> a.eval (.tmp t) = c j
 res : ∀ j t, j < so.length -> waits ops i (so.getD j 0) = true -> dstOf ops (so.getD j 0) = some t -> a.eval (.tmp t) = rs.getD j undef
 defers : a.defers = a0.defers
theorem EnvV.v {ops : Array Oper} {a0 : Act} {c : Nat -> Value} {so : List Nat} {rs : List Value} {i : Nat} {a : Act} (h : EnvV ops a0 c so rs i a) (j t : Nat) (h1 : waits ops i j = true := by kernel_rfl) (h2 : dstOf ops j = some t := by exact rfl) (h3 : so.contains j = false := by exact rfl) : a.eval (.tmp t) = c j := h.val j t h1 h2 h3
theorem EnvV.k {ops : Array Oper} {a0 : Act} {c : Nat -> Value} {so : List Nat} {rs : List Value} {i : Nat} {a : Act} (h : EnvV ops a0 c so rs i a) (t : Nat) (h1 : keepsB ops i (.tmp t) = true := by kernel_rfl) : a.eval (.tmp t) = a0.eval (.tmp t) := h.keep _ h1
def CvStep (P : Program) (ops : Array Oper) (Q : Exit -> Act -> World -> Prop) (a0 : Act) (c : Nat -> Value) (so : List Nat) (A : List Value -> World -> Prop) (i : Nat) (o : Oper) : Prop :=
 match so.idxOf? i with
 | some k => (k = 0 \/ waits ops i (so.getD (k - 1) 0) = true) /\ ∀ a W rs, rs.length = k -> EnvV ops a0 c so rs i a -> A rs W -> o.guard = none /\ o.wp P a W (fun a' W' => ∃ v, a' = a.put o.dst v /\ A (rs ++ [v]) W') Q
 | none => ∀ a W rs, EnvV ops a0 c so rs i a -> A rs W -> StepOk P ops Q o a W (fun v _ => v = c i)
theorem cvStep_val {ops : Array Oper} {a0 : Act} {c : Nat -> Value} {so : List Nat} {A : List Value -> World -> Prop} {i : Nat} {o : Oper} (h : so.idxOf? i = none) (hs : ∀ a W rs, EnvV ops a0 c so rs i a -> A rs W -> StepOk P ops Q o a W (fun v _ => v = c i)) : CvStep P ops Q a0 c so A i o := by
 unfold CvStep
 rw [h]
 exact hs
theorem cvStep_put {ops : Array Oper} {a0 : Act} {c : Nat -> Value} {so : List Nat} {A : List Value -> World -> Prop} {i k : Nat} {o : Oper} (h : so.idxOf? i = some k) (hw : k = 0 \/ waits ops i (so.getD (k - 1) 0) = true) (hs : ∀ a W rs, rs.length = k -> EnvV ops a0 c so rs i a -> A rs W -> o.guard = none /\ o.wp P a W (fun a' W' => ∃ v, a' = a.put o.dst v /\ A (rs ++ [v]) W') Q) : CvStep P ops Q a0 c so A i o := by
 unfold CvStep
 rw [h]
 exact ⟨hw, hs⟩
theorem take_upd {so : List Nat} {xs : Nat -> Value} {i k : Nat} {v : Value} (hkl : k < so.length) (hki : so.getD k 0 = i) (hnd : so.Nodup) : (so.take (k + 1)).map (upd xs i v) = (so.take k).map xs ++ [v] := by
 rw [List.take_succ_eq_append_getElem hkl, List.map_append, List.map_cons, List.map_nil]
 have e : so[k] = i := by rw [<- hki, List.getD_eq_getElem?_getD, List.getElem?_eq_getElem hkl]; rfl
 rw [e, upd_self]
 congr 1
 apply List.map_congr_left
 intro x hx
 refine upd_ne xs v (fun e2 => ?_)
 obtain ⟨j, hj, hjx⟩ := List.getElem_of_mem hx
 rw [List.getElem_take] at hjx
 have hj' : j < k /\ j < so.length := by rw [List.length_take] at hj; omega
 have : so[j] = so[k] := by rw [hjx, e2, e]
 have := (List.getElem_inj hnd).1 this
 omega
theorem wpIn_region_cv {F : Fence} (hF : Wide F) {n : Nat} {id : Nat} {o : Oper} {os : List Oper} {a0 : Act} {w : World} (cs : List Value) (so : List Nat) (A : List Value -> World -> Prop) (hA : ∀ rs W W', Later W W' -> A rs W -> A rs W') (hA0 : A [] w)
  (hm : P.follows .mixedOrders = true) (hp : plainAll (o :: os).toArray = true) (hd : dstsB (o :: os).toArray = true) (hb : backB (o :: os).toArray = true) (ha : ancB (o :: os).toArray = true) (hin : dstIn (o :: os).toArray a0.tmps.size = true) (hg : (lastL o os).guard = none)
  (hnd : so.Nodup) (hso : (so.all fun i => decide (i < (initL o os).length)) = true)
  (step : AllFrom (CvStep P (o :: os).toArray Q a0 (fun i => cs.getD i undef) so A) 0 (initL o os))
  (fin : ∀ xs W, A (so.map xs) W -> (∀ j, j < (initL o os).length -> so.contains j = false -> xs j = cs.getD j undef) -> (∀ y, keepsB (o :: os).toArray (initL o os).length y = true -> (putL (initL o os) 0 xs a0).eval y = a0.eval y) -> (∀ j t, j < (initL o os).length -> dstOf (o :: os).toArray j = some t -> (putL (initL o os) 0 xs a0).eval (.tmp t) = xs j) ->
   LastOk P (lastL o os) (putL (initL o os) 0 xs a0) W Q) : (Code.region id (o :: os).toArray true).wpIn F n P Q a0 w := by
 refine wpIn_region_lastY hF (fun f xs W => (∀ i, f i = true -> so.contains i = false -> xs i = cs.getD i undef) /\ ∃ m, m <= so.length /\ (∀ k, k < so.length -> f (so.getD k 0) = decide (k < m)) /\ A ((so.take m).map xs) W) ⟨fun i h => by simp at h, 0, Nat.zero_le _, fun k _ => by simp, hA _ _ _ ((Later.refl w).drew) hA0⟩ hm hp hd hb ha hin hg ?_ ?_
 ·have key : ∀ (l : List Oper) (i : Nat), AllFrom (CvStep P (o :: os).toArray Q a0 (fun i => cs.getD i undef) so A) i l -> AllFrom (fun i o' => ∀ a W f xs, ((∀ i, f i = true -> so.contains i = false -> xs i = cs.getD i undef) /\ ∃ m, m <= so.length /\ (∀ k, k < so.length -> f (so.getD k 0) = decide (k < m)) /\ A ((so.take m).map xs) W) -> EnvY (o :: os).toArray a0 f i a xs ->
    StepOkY P (o :: os).toArray Q o' a W (fun v W' => (∀ j, updB f i j = true -> so.contains j = false -> upd xs i v j = cs.getD j undef) /\ ∃ m, m <= so.length /\ (∀ k, k < so.length -> updB f i (so.getD k 0) = decide (k < m)) /\ A ((so.take m).map (upd xs i v)) W')) i l := by
   intro l
   induction l with
   | nil => intro i h; exact h
   | cons o' l ih =>
    intro i h
    obtain ⟨h1, h2⟩ := h
    refine ⟨fun a W f xs hI he => ?_, ih _ h2⟩
    obtain ⟨hc, m, hml, hfm, hAm⟩ := hI
    have henv : EnvV (o :: os).toArray a0 (fun i => cs.getD i undef) so ((so.take m).map xs) i a := ⟨he.keep, fun j t hw ht hj => (he.val j t hw ht).trans (hc j (he.done j hw) hj), fun j t hj hw ht => (he.val _ t hw ht).trans (by
     have h5 := he.done _ hw
     rw [hfm j hj] at h5
     have h6 := of_decide_eq_true h5
     rw [List.getD_eq_getElem?_getD, List.getD_eq_getElem?_getD, List.getElem?_map, List.getElem?_take_of_lt h6, List.getElem?_eq_getElem hj]
     rfl), he.defers⟩
    unfold CvStep at h1
    cases hk : so.idxOf? i with
    | some k =>
     rw [hk] at h1
     obtain ⟨hw, h3⟩ := h1
     obtain ⟨hkl, hki⟩ := idxOf_getD hk
     have e1 : ¬ k < m := by
      have := hfm k hkl
      rw [hki, he.todo] at this
      intro h
      rw [decide_eq_true h] at this
      cases this
     have e2 : k <= m := by
      rcases hw with h | h
      ·omega
      ·by_cases h0 : k = 0
       ·omega
       have h4 := he.done _ h
       rw [hfm (k - 1) (by omega)] at h4
       have := of_decide_eq_true h4
       omega
     obtain rfl : k = m := by omega
     obtain ⟨hg', h4⟩ := h3 a W _ (by rw [List.length_map, List.length_take]; omega) henv hAm
     have hsc : so.contains i = true := by
      rw [List.contains_iff_mem, <- hki, List.getD_eq_getElem?_getD, List.getElem?_eq_getElem hkl]
      exact List.getElem_mem hkl
     refine stepOkY_want hg' (Oper.wp_mono (fun a' W' ⟨v, e, hv⟩ => ⟨v, e, fun j hj hjs => ?_, k + 1, hkl, fun k' hk' => ?_, by rw [take_upd hkl hki hnd]; exact hv⟩) h4)
     ·have hji : j ≠ i := fun e => by rw [e, hsc] at hjs; cases hjs
      rw [upd_ne xs v hji]
      exact hc j (by simpa [updB, hji] using hj) hjs
     ·by_cases e : k' = k
      ·subst e
       rw [hki]
       simp [updB]
      ·have hne : so.getD k' 0 ≠ i := fun e3 => e (by
        rw [<- hki, List.getD_eq_getElem?_getD, List.getD_eq_getElem?_getD, List.getElem?_eq_getElem hkl, List.getElem?_eq_getElem hk'] at e3
        exact (List.getElem_inj hnd).1 e3)
       have := hfm k' hk'
       simp only [updB, if_neg hne, this]
       exact decide_eq_decide.2 (by omega)
    | none =>
     rw [hk] at h1
     have h4 := h1 a W _ henv hAm
     have hR : ∀ v W', Later W W' -> v = cs.getD i undef -> (∀ j, updB f i j = true -> so.contains j = false -> upd xs i v j = cs.getD j undef) /\ ∃ m, m <= so.length /\ (∀ k, k < so.length -> updB f i (so.getD k 0) = decide (k < m)) /\ A ((so.take m).map (upd xs i v)) W' := fun v W' hL hv => by
      refine ⟨fun j hj hjs => ?_, m, hml, fun k hkl => ?_, ?_⟩
      rotate_left 2
      ·have e : (so.take m).map (upd xs i v) = (so.take m).map xs := List.map_congr_left fun x hx => upd_ne xs v (fun e2 => by
        obtain ⟨j, hj, hjx⟩ := List.getElem_of_mem hx
        rw [List.getElem_take] at hjx
        have hj' : j < so.length := by rw [List.length_take] at hj; omega
        refine idxOf_none hk j hj' ?_
        rw [List.getD_eq_getElem?_getD, List.getElem?_eq_getElem hj', <- e2, <- hjx]
        rfl)
       rw [e]
       exact hA _ _ _ hL hAm
      ·by_cases e : j = i
       ·subst e; rw [upd_self]; exact hv
       ·rw [upd_ne xs v e]
        exact hc j (by simpa [updB, e] using hj) hjs
      ·have hne := idxOf_none hk k hkl
       simp only [updB, if_neg hne]
       exact hfm k hkl
     unfold StepOk at h4
     unfold StepOkY
     split
     ·rename_i hw
      rw [if_pos hw] at h4
      exact Oper.wp_mono (fun a' W' ⟨v, e, hL, hv⟩ => ⟨v, e, hR v W' hL hv⟩) h4
     ·rename_i hw
      rw [if_neg hw] at h4
      exact hR _ _ (Later.refl W) h4
  exact key _ _ step
 ·intro f xs W hI hall _ hk hget
  obtain ⟨hc, m, hml, hfm, hAm⟩ := hI
  have hmm : m = so.length := by
   by_cases e : m = so.length
   ·exact e
   have hlt : m < so.length := by omega
   have h1 := hfm m hlt
   rw [hall] at h1
   ·simp at h1
   ·have := List.all_eq_true.1 hso (so.getD m 0) (by
     rw [List.getD_eq_getElem?_getD, List.getElem?_eq_getElem hlt]
     exact List.getElem_mem hlt)
    exact of_decide_eq_true this
  subst hmm
  rw [List.take_of_length_le (Nat.le_refl _)] at hAm
  exact fin xs W hAm (fun j hj hjs => hc j (hall j hj) hjs) hk hget
end
end Go.Proofs.YtloiaaolnfimgaaGreat
namespace Go.Proofs.YtloiaaolnfimgaaGreat
open Go.RowKit Rt
theorem loadReader {w : World} {q7 g : Nat} (h : Row w q7 83 #[.pointer (some ⟨g, 0, none⟩)]) : (Instr.loadAt 83 (.pointer (some ⟨q7, 0, none⟩))).run Tryz.prog w = .ok (.agg #[.pointer (some ⟨g, 0, none⟩)]) w := run_load_row h Tryz.underlying83 rfl (by kernel_rfl)
theorem allocReader (w : World) : (Instr.alloc 83 true (.tuple #[])).run Tryz.prog w = .ok (.pointer (some ⟨w.heap.size, 0, none⟩)) (w.alloc (.cells #[.pointer none] 83)) := by kernel_rfl
theorem buildReader (g : Nat) (w : World) : (Instr.build 83 #[(0, .pointer (some ⟨g, 0, none⟩))]).run Tryz.prog w = .ok (.agg #[.pointer (some ⟨g, 0, none⟩)]) w := by kernel_rfl
theorem newReader (w : World) (g : Nat) : ∃ w', (Instr.storeAt 83 (.pointer (some ⟨w.heap.size, 0, none⟩)) (.agg #[.pointer (some ⟨g, 0, none⟩)])).run Tryz.prog (w.alloc (.cells #[.pointer none] 83)) = .ok () w' /\ Row w' w.heap.size 83 #[.pointer (some ⟨g, 0, none⟩)] /\ Later w w' := by
 obtain ⟨w', h1, h2, h3⟩ := run_put_row (P := Tryz.prog) (T := 83) (vs := #[.pointer (some ⟨g, 0, none⟩)]) (Row.new w 83 #[.pointer none]) rfl (by kernel_rfl) (by kernel_rfl)
 exact ⟨w', h1, h2, Below.grown (below_new w _) h3 (by simp) (fun j e => by cases e; exact Nat.le_refl _)⟩
namespace Rt
def pd (x : List UInt8) : List UInt8 := x ++ Sha.zeros (32 - x.length)
theorem pd_len {x : List UInt8} (h : x.length <= 32) : (pd x).length = 32 := by unfold pd; simp [Sha.zeros]; omega
theorem pd_id {x : List UInt8} (h : x.length = 32) : pd x = x := by unfold pd; rw [h]; simp [Sha.zeros]
theorem hC_pd {x : List UInt8} (h : x.length <= 32) : hC (pd x) = hC x := by
 unfold pd hC
 rw [show 32 - (x ++ Sha.zeros (32 - x.length)).length = 0 by simp [Sha.zeros]; omega]
 simp [Sha.zeros]
theorem hashR_le (l : List UInt8) (bad : Bool) : (Wr.hashR l bad).2.1.length <= 32 := by
 rcases Wr.hashR_len l bad with h | h
 ·rw [h]; decide
 ·omega
theorem hashR_ok {l : List UInt8} {bad : Bool} : ((Wr.hashR l bad).1.2 = false ↔ (bad = false /\ (Wr.hashR l bad).2.2 = 0)) /\ ((Wr.hashR l bad).2.2 = 0 -> bad = false /\ (Wr.hashR l bad).2.1.length = 32) := by
 unfold Wr.hashR
 by_cases h : 32 <= l.length <;> cases bad <;> simp [h]
theorem numR_ok {l : List UInt8} {bad : Bool} {most : Int} (hm : 0 <= most) : ((Wr.numR l bad most).1.2 = false ↔ (bad = false /\ (Wr.numR l bad most).2.2 = 0)) /\ ((Wr.numR l bad most).2.2 = 0 -> bad = false) := by
 have hm' : ¬ most < 0 := by omega
 unfold Wr.numR
 by_cases h : Wr.may l most <;> cases bad <;> simp [h, hm']
theorem textR_ok {l : List UInt8} {bad : Bool} {most : Int} (hm : 0 <= most) : ((Wr.textR l bad most).1.2 = false ↔ (bad = false /\ (Wr.textR l bad most).2.2 = 0)) /\ ((Wr.textR l bad most).2.2 = 0 -> bad = false) := by
 have hm' : ¬ most < 0 := by omega
 unfold Wr.textR
 by_cases h : Wr.textOk l most = true <;> cases bad <;> simp [h, hm']
theorem hashR_rest (l : List UInt8) (bad : Bool) : (Wr.hashR l bad).1.1.length <= l.length := by
 unfold Wr.hashR
 by_cases h : 32 <= l.length <;> cases bad <;> simp [h]
theorem numR_rest (l : List UInt8) (bad : Bool) (most : Int) : (Wr.numR l bad most).1.1.length <= l.length := by
 unfold Wr.numR
 by_cases h : Wr.may l most <;> by_cases h2 : most < 0 <;> cases bad <;> simp [h, h2]
end Rt
structure DR (w : World) (q9 q10 : Nat) (T9 : TypeId) (A0 : Option Addr) (b : List UInt8) (s : List UInt8 × Bool) (h : Hop) (W : World) : Prop where
 low : Below w.heap.size w W
 rd : Rd W A0 b
 off : ∀ bl o, A0 = some ⟨bl, o, none⟩ -> b ≠ [] -> bl ≠ q9 /\ bl ≠ q10
 k10 : ∃ D c, Row W q10 89 (rfV D s.1.length c s.2) /\ s.1.length <= c /\ c <= 9223372036854775807 /\ ∀ X, Rd X A0 b -> Rd X D s.1
 k9 : Row W q9 T9 (hopC h)
 hw : h.wf
 ne : q9 ≠ q10
 at9 : w.heap.size <= q9
 at10 : w.heap.size <= q10
 len : s.1.length <= 1000000
section
variable {w W : World} {q9 q10 : Nat} {T9 : TypeId} {A0 : Option Addr} {b : List UInt8} {s : List UInt8 × Bool} {h : Hop}
theorem DR.later {W' : World} (d : DR w q9 q10 T9 A0 b s h W) (hL : Later W W') : DR w q9 q10 T9 A0 b s h W' := by
 obtain ⟨D, c, h1, h2, h3, h4⟩ := d.k10
 exact ⟨d.low.trans (hL.below.mono d.low.size), d.rd.later hL, d.off, ⟨D, c, h1.later hL, h2, h3, h4⟩, d.k9.later hL, d.hw, d.ne, d.at9, d.at10, d.len⟩
theorem DR.put10 {v : Value} {s' : List UInt8 × Bool} (d : DR w q9 q10 T9 A0 b s h W) (D2 : Option Addr) (c2 : Nat) (hv : v = .agg (rfV D2 s'.1.length c2 s'.2)) (hc : s'.1.length <= c2) (hcm : c2 <= 9223372036854775807) (hD : ∀ X, Rd X A0 b -> Rd X D2 s'.1) (hl : s'.1.length <= 1000000) :
  ∃ W', (Instr.storeAt 89 (.pointer (some ⟨q10, 0, none⟩)) v).run Tryz.prog W = .ok () W' /\ DR w q9 q10 T9 A0 b s' h W' := by
 obtain ⟨D, c, h1, h2, h3, h4⟩ := d.k10
 subst hv
 obtain ⟨W', e1, e2, e3⟩ := storeRf (A' := D2) (n' := s'.1.length) (c' := c2) (bad' := s'.2) h1
 exact ⟨W', e1, d.low.grown e3 d.low.size (fun j e => by injection e with e; have := d.at10; omega), d.rd.grown e3 (fun bl o e hne e2 => (d.off bl o e hne).2 (Option.some.inj e2)), d.off, ⟨D2, c2, e2, hc, hcm, hD⟩, d.k9.grown e3 (fun e => d.ne (Option.some.inj e)), d.hw, d.ne, d.at9, d.at10, hl⟩
theorem DR.put9 {W' : World} {h' : Hop} (d : DR w q9 q10 T9 A0 b s h W) (hr : Row W' q9 T9 (hopC h')) (hw : h'.wf) (hg : W.grownBy W' (some q9)) : DR w q9 q10 T9 A0 b s h' W' := by
 obtain ⟨D, c, h1, h2, h3, h4⟩ := d.k10
 exact ⟨d.low.grown hg d.low.size (fun j e => by injection e with e; have := d.at9; omega), d.rd.grown hg (fun bl o e hne e2 => (d.off bl o e hne).1 (Option.some.inj e2)), d.off, ⟨D, c, h1.grown hg (fun e => d.ne (Option.some.inj e).symm), h2, h3, h4⟩, hr, hw, d.ne, d.at9, d.at10, d.len⟩
theorem DR.load (d : DR w q9 q10 T9 A0 b s h W) : ∃ D c, (Instr.loadAt 89 (.pointer (some ⟨q10, 0, none⟩))).run Tryz.prog W = .ok (.agg (rfV D s.1.length c s.2)) W /\ s.1.length <= c /\ c <= 9223372036854775807 /\ (∀ X, Rd X A0 b -> Rd X D s.1) := by
 obtain ⟨D, c, h1, h2, h3, h4⟩ := d.k10
 exact ⟨D, c, loadRf h1, h2, h3, h4⟩
theorem DR.next (d : DR w q9 q10 T9 A0 b s h W) : ∃ v0, (Instr.loadAt 89 (.pointer (some ⟨q10, 0, none⟩))).run Tryz.prog W = .ok v0 W /\
  Calls Tryz.prog 41 #[v0] W fun e w2 => ∃ v, e = .returned (.tuple #[v, .agg (hC (Wr.hashR s.1 s.2).2.1), .int .i64 (Wr.hashR s.1 s.2).2.2]) /\
   ∃ w3, (Instr.storeAt 89 (.pointer (some ⟨q10, 0, none⟩)) v).run Tryz.prog w2 = .ok () w3 /\
   ∃ w4, (Instr.storeAt 25 (.pointer (some ⟨q9, 32, none⟩)) (.agg (hC (Wr.hashR s.1 s.2).2.1))).run Tryz.prog w3 = .ok () w4 /\ DR w q9 q10 T9 A0 b (Wr.hashR s.1 s.2).1 { h with next := pd (Wr.hashR s.1 s.2).2.1 } w4 := by
 obtain ⟨D, c, h1, h2, h3, h4⟩ := d.load
 refine ⟨_, h1, (refHashR_any D s.1.length c s.1 s.2 W rfl h2 h3 (h4 W d.rd)).mono ?_⟩
 rintro e w2 ⟨hL, v, rfl, D2, c2, hv, hc2, hcm2, hD2⟩
 obtain ⟨w3, e3, d3⟩ := (d.later hL).put10 (s' := (Wr.hashR s.1 s.2).1) D2 c2 hv hc2 hcm2 (fun X hX => hD2 X (h4 X hX)) (Nat.le_trans (hashR_rest _ _) d.len)
 have hx := hashR_le s.1 s.2
 obtain ⟨w4, e4, r4, g4⟩ := storeHash (o := 32) (pd (Wr.hashR s.1 s.2).2.1) (pd_len hx) d3.k9 (by rw [hopC_size d3.hw]; decide)
 rw [hC_pd hx] at e4
 rw [hopC_setNext d3.hw _ (pd_len hx)] at r4
 exact ⟨v, rfl, w3, e3, w4, e4, d3.put9 r4 ⟨d3.hw.1, pd_len hx⟩ g4⟩
theorem DR.amt (d : DR w q9 q10 T9 A0 b s h W) (most : Int) : ∃ v0, (Instr.loadAt 89 (.pointer (some ⟨q10, 0, none⟩))).run Tryz.prog W = .ok v0 W /\
  Calls Tryz.prog 42 #[v0, .int .i64 most] W fun e w2 => ∃ v, e = .returned (.tuple #[v, .int .i64 (Wr.numR s.1 s.2 most).2.1, .int .i64 (Wr.numR s.1 s.2 most).2.2]) /\
   ∃ w3, (Instr.storeAt 89 (.pointer (some ⟨q10, 0, none⟩)) v).run Tryz.prog w2 = .ok () w3 /\
   ∃ w4, (Instr.storeAt 2 (.pointer (some ⟨q9, 64, none⟩)) (.int .i64 (Wr.numR s.1 s.2 most).2.1)).run Tryz.prog w3 = .ok () w4 /\ DR w q9 q10 T9 A0 b (Wr.numR s.1 s.2 most).1 { h with amt := (Wr.numR s.1 s.2 most).2.1 } w4 := by
 obtain ⟨D, c, h1, h2, h3, h4⟩ := d.load
 refine ⟨_, h1, (refNumberR_any D s.1.length c s.1 s.2 most W rfl h2 h3 (by have := d.len; omega) (h4 W d.rd)).mono ?_⟩
 rintro e w2 ⟨hL, v, rfl, D2, c2, hv, hc2, hcm2, hD2⟩
 obtain ⟨w3, e3, d3⟩ := (d.later hL).put10 (s' := (Wr.numR s.1 s.2 most).1) D2 c2 hv hc2 hcm2 (fun X hX => hD2 X (h4 X hX)) (Nat.le_trans (numR_rest _ _ _) d.len)
 have r4 := d3.k9.set 64 (.int .i64 (Wr.numR s.1 s.2 most).2.1)
 rw [hopC_setAmt d3.hw] at r4
 exact ⟨v, rfl, w3, e3, _, storeI64 _ d3.k9 (hopC_amt d3.hw), d3.put9 r4 d3.hw (grown_set w3 q9 64 _)⟩
theorem DR.exp (d : DR w q9 q10 T9 A0 b s h W) (most : Int) : ∃ v0, (Instr.loadAt 89 (.pointer (some ⟨q10, 0, none⟩))).run Tryz.prog W = .ok v0 W /\
  Calls Tryz.prog 42 #[v0, .int .i64 most] W fun e w2 => ∃ v, e = .returned (.tuple #[v, .int .i64 (Wr.numR s.1 s.2 most).2.1, .int .i64 (Wr.numR s.1 s.2 most).2.2]) /\
   ∃ w3, (Instr.storeAt 89 (.pointer (some ⟨q10, 0, none⟩)) v).run Tryz.prog w2 = .ok () w3 /\
   ∃ w4, (Instr.storeAt 2 (.pointer (some ⟨q9, 65, none⟩)) (.int .i64 (Wr.numR s.1 s.2 most).2.1)).run Tryz.prog w3 = .ok () w4 /\ DR w q9 q10 T9 A0 b (Wr.numR s.1 s.2 most).1 { h with exp := (Wr.numR s.1 s.2 most).2.1 } w4 := by
 obtain ⟨D, c, h1, h2, h3, h4⟩ := d.load
 refine ⟨_, h1, (refNumberR_any D s.1.length c s.1 s.2 most W rfl h2 h3 (by have := d.len; omega) (h4 W d.rd)).mono ?_⟩
 rintro e w2 ⟨hL, v, rfl, D2, c2, hv, hc2, hcm2, hD2⟩
 obtain ⟨w3, e3, d3⟩ := (d.later hL).put10 (s' := (Wr.numR s.1 s.2 most).1) D2 c2 hv hc2 hcm2 (fun X hX => hD2 X (h4 X hX)) (Nat.le_trans (numR_rest _ _ _) d.len)
 have r4 := d3.k9.set 65 (.int .i64 (Wr.numR s.1 s.2 most).2.1)
 rw [hopC_setExp d3.hw] at r4
 exact ⟨v, rfl, w3, e3, _, storeI64 _ d3.k9 (hopC_exp d3.hw), d3.put9 r4 d3.hw (grown_set w3 q9 65 _)⟩
end
namespace Rt
def q1 (b : List UInt8) : (List UInt8 × Bool) × List UInt8 × Int := Wr.hashR b false
def q2 (b : List UInt8) : (List UInt8 × Bool) × Int × Int := Wr.numR (q1 b).1.1 (q1 b).1.2 1125899906842624
def q3 (b : List UInt8) : (List UInt8 × Bool) × Int × Int := Wr.numR (q2 b).1.1 (q2 b).1.2 2147483647
def q4 (b : List UInt8) : (List UInt8 × Bool) × List UInt8 × Int := Wr.textR (q3 b).1.1 (q3 b).1.2 512
def hopOf (key b : List UInt8) : Hop := ⟨key, (q1 b).2.1, (q2 b).2.1, (q3 b).2.1⟩
def qErr (b : List UInt8) : Nat -> Int
 | 0 => (q1 b).2.2
 | 1 => (q2 b).2.2
 | 2 => (q3 b).2.2
 | _ => 0
def qSt (b : List UInt8) : Nat -> List UInt8 × Bool
 | 0 => (b, false)
 | 1 => (q1 b).1
 | 2 => (q2 b).1
 | _ => (q3 b).1
def qEnd (b : List UInt8) : Int := (Wr.endR (q4 b).1.1 (q4 b).1.2).2
def fits (h : Hop) (rest : List UInt8) : Bool := paid h.amt h.exp && ((h.next == zh) == rest.isEmpty)
def okQ (b : List UInt8) : Bool := (List.range 3).all fun j => decide (qErr b j = 0)
def okPeel (key b : List UInt8) : Bool := okQ b && (decide ((q4 b).2.2 = 0) && (decide (qEnd b = 0) && fits (hopOf key b) (q4 b).2.1))
def peelB (key b : List UInt8) : Hop × List UInt8 × Int := if okPeel key b then (hopOf key b, (q4 b).2.1, 0) else (noHop, [], 350)
def peel (key s : List UInt8) : Hop × List UInt8 × Int :=
 if 32 <= s.length /\ s.length <= 512 then
  (if Hm.tag key (mask key (s.take 32) (s.drop 32)) == s.take 32 then peelB key (mask key (s.take 32) (s.drop 32)) else (noHop, [], 350))
 else (noHop, [], 350)
theorem hopOf_wf {key b : List UInt8} (hk : key.length = 32) (h : okQ b = true) : (hopOf key b).wf := by
 have h0 : (q1 b).2.2 = 0 := of_decide_eq_true (List.all_eq_true.1 h 0 (by simp))
 exact ⟨hk, ((hashR_ok (l := b) (bad := false)).2 h0).2⟩
end Rt
section
variable {P : Program} {ops : Array Oper} {rest : List Oper} {o : Oper} {a : Act} {w : World} {Q : Exit -> Act -> World -> Prop}
theorem wpList_arr (hgd : o.guard = none) (T : TypeId) (x : Operand) (ho : o.op = .sliceToArrayPointer T x) (vx : Value) (hx : a.eval x = vx) {v : Value} {w' : World} (hr : (Instr.arrayAt T vx).run P w = .ok v w')
  (h : wpList P ops Q rest (a.put o.dst v) w') : wpList P ops Q (o :: rest) a w :=
 wpList_plain hgd fun _ hK => by
  unfold Oper.wp execOp
  simp only [ho, Sem.run_bind, Sem.run_pure, Result.andThen_ok, hx, hr]
  exact hK _ _ h
end
theorem run_arr32 {g c : Nat} (W : World) : (Instr.arrayAt 25 (.slice (some ⟨g, 0, none⟩) 32 c)).run Tryz.prog W = .ok (.pointer (some ⟨g, 0, none⟩)) W := by
 simp [Instr.arrayAt, run_underlying Tryz.underlying25, go_sem]
theorem rd_range {w : World} {g o : Nat} {l : List UInt8} (h : Rd w (some ⟨g, o, none⟩) l) (hl : l.length = 32) : w.rangeAt g o (hC l).toList := fun j v hj => by
 rw [hC_full l hl] at hj
 have hjl : j < l.length := by
  have := (List.getElem?_eq_some_iff.1 hj).1
  simpa using this
 obtain ⟨b, o', e, hc⟩ := h.at_ hjl
 injection e with e
 injection e with e1 e2
 subst e1 e2
 rw [hc]
 rw [<- hj]
 simp [List.getElem?_eq_getElem hjl]
def Pr.slM (n : Nat) (l : List UInt8) : Pr := ⟨fun v W => ∃ S c, v = .slice S n c /\ n <= c /\ c <= 9223372036854775807 /\ Rd W S l, fun _ _ _ ⟨S, c, e, h1, h2, h3⟩ hL => ⟨S, c, e, h1, h2, h3.later hL⟩⟩
theorem peel_fail (q q5 q6 : Nat) (h : Hop) (hh : h.wf) (s : ByteArray) (x : Int) (w W : World) (Φ : Ending -> World -> Prop) (a : Act) (hd : a.defers = [{ target := .fn (.func 30) #[], args := #[.pointer (some ⟨q6, 0, none⟩), .func (.func 31) #[] #[.pointer (some ⟨q, 0, none⟩), .pointer (some ⟨q5, 0, none⟩)]] }]) (h4 : a.eval (.tmp 4) = .pointer (some ⟨q, 0, none⟩)) (h5 : a.eval (.tmp 5) = .pointer (some ⟨q5, 0, none⟩)) (h6 : a.eval (.tmp 6) = .pointer (some ⟨q6, 0, none⟩))
  (k4 : Row W q 27 (hopC h)) (k5 : Row W q5 9 #[.string s]) (k6 : Row W q6 28 #[.int .i64 x]) (hb : Below w.heap.size w W) (hq : w.heap.size <= q) (hq5 : w.heap.size <= q5) (hq6 : w.heap.size <= q6) (hΦ : ∀ w', Below w.heap.size w w' -> Φ (.returned (.tuple #[.agg (hopC noHop), .string ⟨#[]⟩, .int .i64 350])) w') : bodyPostD Tryz.prog Tryz.f12 Φ (.panic (gaveUp 350)) a W := by
 obtain ⟨T, ds⟩ := a
 simp only at hd
 subst hd
 refine leaves_cons (f := 30) (args := #[.pointer (some ⟨q6, 0, none⟩), .func (.func 31) #[] #[.pointer (some ⟨q, 0, none⟩), .pointer (some ⟨q5, 0, none⟩)]]) (by simp) (by simp [go_sem]) ?_
 refine (peel_caught q q5 q6 h hh s x _ w W k4 k5 k6 hb hq hq5 hq6).mono ?_
 rintro e u' w'' ⟨rfl, rfl, kQ, c5, c6, hbG⟩
 show ∃ v, _ /\ _
 exact ⟨_, results_ccc rfl _ _ _ _ _ 27 (hopC noHop) _ _ _ h4 h5 h6 kQ Tryz.underlying27 rfl (by rw [hopC_size noHop_wf]; exact infoHop) (loadStrVar c5) (loadErr c6), hΦ _ hbG⟩
structure QRd (w : World) (g g2 q q5 q6 q9 : Nat) (key : List UInt8) (A0 : Option Addr) (b : List UInt8) (s : List UInt8 × Bool) (h : Hop) (r : ByteArray) (x : Int) (W : World) : Prop where
 low : Below w.heap.size w W
 at_ : RAt W g A0 b s.1 s.2
 k2 : Row W g2 25 (hC key)
 k4 : Row W q 27 (hopC h)
 k5 : Row W q5 9 #[.string r]
 k6 : Row W q6 28 #[.int .i64 x]
 k9 : Row W q9 83 #[.pointer (some ⟨g, 0, none⟩)]
structure QAt (w : World) (g g2 q q5 q6 q9 : Nat) (A0 : Option Addr) (b : List UInt8) : Prop where
 hq : w.heap.size <= q
 hq5 : w.heap.size <= q5
 hq6 : w.heap.size <= q6
 hg : w.heap.size <= g
 ng : g2 ≠ g /\ q ≠ g /\ q5 ≠ g /\ q6 ≠ g /\ q9 ≠ g
 nq : g2 ≠ q /\ q5 ≠ q /\ q6 ≠ q /\ q9 ≠ q
 n5 : g2 ≠ q5 /\ q6 ≠ q5 /\ q9 ≠ q5 /\ g2 ≠ q6 /\ q9 ≠ q6
 nb : ∀ bl o, A0 = some ⟨bl, o, none⟩ -> b ≠ [] -> bl ≠ q /\ bl ≠ q5 /\ bl ≠ q6
section
variable {w W W' : World} {g g2 q q5 q6 q9 : Nat} {key : List UInt8} {A0 : Option Addr} {b : List UInt8} {s : List UInt8 × Bool} {h : Hop} {r : ByteArray} {x : Int}
theorem QRd.later (d : QRd w g g2 q q5 q6 q9 key A0 b s h r x W) (hL : Later W W') : QRd w g g2 q q5 q6 q9 key A0 b s h r x W' :=
 ⟨d.low.trans (hL.below.mono d.low.size), d.at_.later hL, d.k2.later hL, d.k4.later hL, d.k5.later hL, d.k6.later hL, d.k9.later hL⟩
theorem QRd.read (d : QRd w g g2 q q5 q6 q9 key A0 b s h r x W) (z : QAt w g g2 q q5 q6 q9 A0 b) {s' : List UInt8 × Bool} (hs : Same (fun k => k < W.heap.size /\ k ≠ g) W W') (ha : RAt W' g A0 b s'.1 s'.2) : QRd w g g2 q q5 q6 q9 key A0 b s' h r x W' :=
 ⟨(Same.of_below d.low |>.trans (hs.mono fun k hk => ⟨Nat.lt_of_lt_of_le hk d.low.size, by have := z.hg; omega⟩)).below, ha, d.k2.same hs ⟨d.k2.lt, z.ng.1⟩, d.k4.same hs ⟨d.k4.lt, z.ng.2.1⟩, d.k5.same hs ⟨d.k5.lt, z.ng.2.2.1⟩, d.k6.same hs ⟨d.k6.lt, z.ng.2.2.2.1⟩, d.k9.same hs ⟨d.k9.lt, z.ng.2.2.2.2⟩⟩
theorem QRd.putHop (d : QRd w g g2 q q5 q6 q9 key A0 b s h r x W) (z : QAt w g g2 q q5 q6 q9 A0 b) {h' : Hop} (hr : Row W' q 27 (hopC h')) (hg : W.grownBy W' (some q)) : QRd w g g2 q q5 q6 q9 key A0 b s h' r x W' :=
 ⟨d.low.grown hg d.low.size (fun j e => by injection e with e; have := z.hq; omega), d.at_.grown hg z.ng.2.1.symm (fun bl o e hne => (z.nb bl o e hne).1), d.k2.grown hg (fun e => z.nq.1 (Option.some.inj e)), hr, d.k5.grown hg (fun e => z.nq.2.1 (Option.some.inj e)), d.k6.grown hg (fun e => z.nq.2.2.1 (Option.some.inj e)), d.k9.grown hg (fun e => z.nq.2.2.2 (Option.some.inj e))⟩
theorem QRd.putStr (d : QRd w g g2 q q5 q6 q9 key A0 b s h r x W) (z : QAt w g g2 q q5 q6 q9 A0 b) (r' : ByteArray) : QRd w g g2 q q5 q6 q9 key A0 b s h r' x (W.setCell ⟨q5, 0, none⟩ (.string r')) := by
 have hg := grown_set W q5 0 (.string r')
 exact ⟨d.low.grown hg d.low.size (fun j e => by injection e with e; have := z.hq5; omega), d.at_.grown hg z.ng.2.2.1.symm (fun bl o e hne => (z.nb bl o e hne).2.1), d.k2.grown hg (fun e => z.n5.1 (Option.some.inj e)), d.k4.grown hg (fun e => z.nq.2.1 (Option.some.inj e).symm), d.k5.set 0 _, d.k6.grown hg (fun e => z.n5.2.1 (Option.some.inj e)), d.k9.grown hg (fun e => z.n5.2.2.1 (Option.some.inj e))⟩
theorem QRd.putErr (d : QRd w g g2 q q5 q6 q9 key A0 b s h r x W) (z : QAt w g g2 q q5 q6 q9 A0 b) (x' : Int) : QRd w g g2 q q5 q6 q9 key A0 b s h r x' (W.setCell ⟨q6, 0, none⟩ (.int .i64 x')) := by
 have hg := grown_set W q6 0 (.int .i64 x')
 exact ⟨d.low.grown hg d.low.size (fun j e => by injection e with e; have := z.hq6; omega), d.at_.grown hg z.ng.2.2.2.1.symm (fun bl o e hne => (z.nb bl o e hne).2.2), d.k2.grown hg (fun e => z.n5.2.2.2.1 (Option.some.inj e)), d.k4.grown hg (fun e => z.nq.2.2.1 (Option.some.inj e).symm), d.k5.grown hg (fun e => z.n5.2.1 (Option.some.inj e).symm), d.k6.set 0 _, d.k9.grown hg (fun e => z.n5.2.2.2.2 (Option.some.inj e))⟩
end
theorem ldErr {b o : Nat} {x : Int} {W : World} (hc : W.cell? ⟨b, o, none⟩ = some (.int .i64 x)) : (Instr.loadAt 28 (.pointer (some ⟨b, o, none⟩))).run Tryz.prog W = .ok (.int .i64 x) W := by
 go_simp
theorem ldStr {b o : Nat} {x : ByteArray} {W : World} (hc : W.cell? ⟨b, o, none⟩ = some (.string x)) : (Instr.loadAt 9 (.pointer (some ⟨b, o, none⟩))).run Tryz.prog W = .ok (.string x) W := by
 go_simp
theorem stErr {b o : Nat} {x y : Int} {W : World} (hc : W.cell? ⟨b, o, none⟩ = some (.int .i64 x)) (hf : W.frozen? ⟨b, o, none⟩ = false) : (Instr.storeAt 28 (.pointer (some ⟨b, o, none⟩)) (.int .i64 y)).run Tryz.prog W = .ok () (W.setCell ⟨b, o, none⟩ (.int .i64 y)) := by
 go_simp
theorem stStr {b o : Nat} {x y : ByteArray} {W : World} (hc : W.cell? ⟨b, o, none⟩ = some (.string x)) (hf : W.frozen? ⟨b, o, none⟩ = false) : (Instr.storeAt 9 (.pointer (some ⟨b, o, none⟩)) (.string y)).run Tryz.prog W = .ok () (W.setCell ⟨b, o, none⟩ (.string y)) := by
 go_simp
theorem putL_defers (l : List Oper) (k : Nat) (xs : Nat -> Value) (a : Act) : (putL l k xs a).defers = a.defers := by
 induction l generalizing k a with
 | nil => rfl
 | cons o l ih =>
  rw [putL, ih]
  unfold Act.put
  split <;> rfl
theorem eqErr (e : Int) (w : World) : (binOp .eql 28 (.int .i64 e) (.int .i64 0)).run Tryz.prog w = .ok (.bool (e == 0)) w := by kernel_rfl
theorem eqStr0 (l : List UInt8) (w : World) : (binOp .eql 9 (.string ⟨l.toArray⟩) (.string ⟨#[]⟩)).run Tryz.prog w = .ok (.bool l.isEmpty) w := by
 cases l with
 | nil => kernel_rfl
 | cons x l =>
  go_simp
theorem eqBools (a b : Bool) (w : World) : (binOp .eql 4 (.bool a) (.bool b)).run Tryz.prog w = .ok (.bool (a == b)) w := by
 cases a <;> cases b <;> kernel_rfl
theorem stepOkY_yes {P : Program} {Q : Exit -> Act -> World -> Prop} {ops : Array Oper} {o : Oper} {a : Act} {W : World} {R : Value -> World -> Prop} {j : Nat} {t : Tmp} {b : Bool} (hg : o.guard = some (j, b)) (ht : dstOf ops j = some t) (he : a.eval (.tmp t) = .bool b) (h : o.wp P a W (fun a' W' => ∃ v, a' = a.put o.dst v /\ R v W') Q) : StepOkY P ops Q o a W R := by
 unfold StepOkY
 rw [if_pos (by unfold Region.wanted; rw [hg]; simp [yielded_of ht he])]
 exact h
theorem fReader0 {g : Nat} {W : World} : (Instr.fieldAt 83 (.pointer (some ⟨g, 0, none⟩)) 0).run Tryz.prog W = .ok (.pointer (some ⟨g, 0, none⟩)) W := by go_simp
theorem bHopR0 (f : Nat -> Value) (w : World) : (Instr.build 68 #[(0, .agg ((List.range 66).map f).toArray)]).run Tryz.prog w = .ok (.agg ((List.range 66).map f).toArray) w := by kernel_rfl
theorem bHopR {h : Hop} (hw : h.wf) (w : World) : (Instr.build 68 #[(0, .agg (hopC h))]).run Tryz.prog w = .ok (.agg (hopC h)) w := by
 rw [arr_range (hopC h) 66 (hopC_size hw)]
 exact bHopR0 _ w
theorem peel_fin (cd : Code) (hcd : ((Tryz.prog.funcs[(12 : Nat)]?.bind (·.body)).bind (fromR 9)) = some cd) (w W : World) (key b rest : List UInt8) (h : Hop) (hwf : h.wf) (g g2 q q5 q6 q9 : Nat) (A0 : Option Addr) (s4 : List UInt8 × Bool) (e4 : Int) (z : QAt w g g2 q q5 q6 q9 A0 b) (d : QRd w g g2 q q5 q6 q9 key A0 b s4 h ⟨rest.toArray⟩ e4 W)
  (Φ : Ending -> World -> Prop) (hbad : (decide (e4 = 0) && (decide ((Wr.endR s4.1 s4.2).2 = 0) && fits h rest)) = false -> ∀ w', Below w.heap.size w w' -> Φ (.returned (.tuple #[.agg (hopC noHop), .string ⟨#[]⟩, .int .i64 350])) w')
  (hgood : (decide (e4 = 0) && (decide ((Wr.endR s4.1 s4.2).2 = 0) && fits h rest)) = true -> ∀ w', Below w.heap.size w w' -> Φ (.returned (.tuple #[.agg (hopC h), .string ⟨rest.toArray⟩, .int .i64 0])) w')
  (u0 u1 u2 u3 u7 u8 u10 u11 u12 u13 u14 u15 u16 u17 u18 u19 u20 u21 u22 u23 u24 u25 u26 u27 u28 u29 u30 u31 u32 u33 u34 u35 u36 u37 u38 u39 u40 u41 u42 u43 u44 u45 u46 u47 u48 u49 u50 u51 u52 u53 u54 u55 u56 u57 u58 u59 u60 u61 u62 u63 u64 u65 u66 u67 u68 u69 u70 u71 u72 u73 u74 : Value) :
  cd.wp Tryz.prog (bodyPostD Tryz.prog Tryz.f12 Φ) { tmps := #[u0, u1, u2, u3, .pointer (some ⟨q, 0, none⟩), .pointer (some ⟨q5, 0, none⟩), .pointer (some ⟨q6, 0, none⟩), u7, u8, .pointer (some ⟨q9, 0, none⟩), u10, u11, u12, u13, u14, u15, u16, u17, u18, u19, u20, u21, u22, u23, u24, u25, u26, u27, u28, u29, u30, u31, u32, u33, u34, u35, u36, u37, u38, u39, u40, u41, u42, u43, u44, u45, u46, u47, u48, u49, u50, u51, u52, u53, u54, u55, u56, u57, u58, u59, u60, u61, u62, u63, u64, u65, u66, u67, u68, u69, u70, u71, u72, u73, u74], defers := [{ target := .fn (.func 30) #[], args := #[.pointer (some ⟨q6, 0, none⟩), .func (.func 31) #[] #[.pointer (some ⟨q, 0, none⟩), .pointer (some ⟨q5, 0, none⟩)]] }] } W := by
 conv at hcd => lhs; whnf
 injection hcd with hcd
 subst hcd
 obtain ⟨en, hen⟩ : ∃ x, (Wr.endR s4.1 s4.2).2 = x := ⟨_, rfl⟩
 rw [hen] at hbad hgood
 by_cases h4 : e4 = 0
 case neg =>
  go_upto_region 9 with fail
  have c6 : W.cell? ⟨q6, 0, none⟩ = some (.int .i64 e4) := (d.k6.cell 0).trans rfl
  have hne := fun W => eqErr e4 W
  rw [show (e4 == 0) = false by simpa using h4] at hne
  refine (wpIn_wide (n := 0)).1 ?_
  refine wpIn_region_last wide_wide [Pr.eq (.int .i64 e4), Pr.eq (.bool false), Pr.eq (.bool false), Pr.eq (undef), Pr.eq (undef), Pr.eq (undef), Pr.eq (undef), Pr.eq (.bool false), Pr.eq (.bool false), Pr.eq (undef), Pr.eq (undef), Pr.eq (undef), Pr.eq (undef), Pr.eq (undef), Pr.eq (.bool false), Pr.eq (.bool false), Pr.eq (undef), Pr.eq (undef), Pr.eq (undef), Pr.eq (undef), Pr.eq (undef), Pr.eq (undef), Pr.eq (.bool false)] (by kernel_rfl) (by kernel_rfl) (by kernel_rfl) (by kernel_rfl) (by kernel_rfl) (by kernel_rfl) rfl ⟨?_, ?_, ?_, ?_, ?_, ?_, ?_, ?_, ?_, ?_, ?_, ?_, ?_, ?_, ?_, ?_, ?_, ?_, ?_, ?_, ?_, ?_, ?_, trivial⟩ ?_
  ·exact fun ac W hL he => stepOk_want rfl (op_load rfl (he.k 6) (ldErr (hL.cell c6)) rfl)
  ·exact fun ac W hL he => stepOk_want rfl (op_binOp rfl (he.g 0 49) rfl (by kernel_rfl) (hne W) rfl)
  ·exact fun ac W hL he => stepOk_want rfl (op_move rfl (he.g 1 50))
  iterate 4 (exact fun ac W hL he => stepOk_no rfl rfl (he.g 2 51) (by decide) rfl)
  ·exact fun ac W hL he => stepOk_want rfl (op_pick (b := false) rfl (he.g 2 51) rfl)
  ·exact fun ac W hL he => stepOk_want rfl (op_move rfl (he.g 7 56))
  iterate 5 (exact fun ac W hL he => stepOk_no rfl rfl (he.g 8 57) (by decide) rfl)
  ·exact fun ac W hL he => stepOk_want rfl (op_pick (b := false) rfl (he.g 8 57) rfl)
  ·exact fun ac W hL he => stepOk_want rfl (op_move rfl (he.g 14 63))
  iterate 6 (exact fun ac W hL he => stepOk_no rfl rfl (he.g 15 64) (by decide) rfl)
  ·exact fun ac W hL he => stepOk_want rfl (op_pick (b := false) rfl (he.g 15 64) rfl)
  intro xs W9 hL9 hx hk9 hgt
  have v22 : xs 22 = .bool false := hx 22 (by decide)
  have d9 := d.later hL9
  have e71 := (hgt 22 71 (by decide) (by kernel_rfl)).trans v22
  refine ⟨op_callFP (vs := #[.bool false, .int .i64 350]) rfl (by simp only [List.map_toArray, List.map_cons, List.map_nil, e71]; rfl) (enters_of Tryz.func32 (by kernel_rfl) rfl) ((rmust_no 350 _).mono ?_)⟩
  rintro e W6 ⟨rfl, rfl⟩
  refine .inr ⟨_, rfl, ?_⟩
  exact peel_fail q q5 q6 h hwf _ e4 w _ Φ _ (putL_defers _ _ _ _) (hk9 (.tmp 4) (by kernel_rfl)) (hk9 (.tmp 5) (by kernel_rfl)) (hk9 (.tmp 6) (by kernel_rfl)) d9.k4 d9.k5 d9.k6 d9.low z.hq z.hq5 z.hq6 (hbad (by rw [decide_eq_false h4]; rfl))
 subst h4
 obtain ⟨es, hes⟩ : ∃ x, (Wr.endR s4.1 s4.2).1 = x := ⟨_, rfl⟩
 have R0 : ∀ W, (QRd w g g2 q q5 q6 q9 key A0 b s4 h ⟨rest.toArray⟩ 0 W \/ QRd w g g2 q q5 q6 q9 key A0 b es h ⟨rest.toArray⟩ 0 W) -> W.cell? ⟨q6, 0, none⟩ = some (.int .i64 0) /\ W.cell? ⟨q9, 0, none⟩ = some (.pointer (some ⟨g, 0, none⟩)) /\ W.cell? ⟨q5, 0, none⟩ = some (.string ⟨rest.toArray⟩) /\ Row W q 27 (hopC h) := fun W hh => by
  rcases hh with hh | hh
  iterate 2 (exact ⟨(hh.k6.cell 0).trans rfl, (hh.k9.cell 0).trans rfl, (hh.k5.cell 0).trans rfl, hh.k4⟩)
 have hRA : ∀ W, QRd w g g2 q q5 q6 q9 key A0 b s4 h ⟨rest.toArray⟩ 0 W -> (W.cell? ⟨q6, 0, none⟩ = some (.int .i64 0) /\ W.cell? ⟨q9, 0, none⟩ = some (.pointer (some ⟨g, 0, none⟩)) /\ W.cell? ⟨q5, 0, none⟩ = some (.string ⟨rest.toArray⟩) /\ Row W q 27 (hopC h)) := fun W hh => R0 W (.inl hh)
 have hRB : ∀ x W, (x = Value.int .i64 en /\ QRd w g g2 q q5 q6 q9 key A0 b es h ⟨rest.toArray⟩ 0 W) -> (W.cell? ⟨q6, 0, none⟩ = some (.int .i64 0) /\ W.cell? ⟨q9, 0, none⟩ = some (.pointer (some ⟨g, 0, none⟩)) /\ W.cell? ⟨q5, 0, none⟩ = some (.string ⟨rest.toArray⟩) /\ Row W q 27 (hopC h)) := fun x W hh => R0 W (.inr hh.2)
 have hend : ∀ W, QRd w g g2 q q5 q6 q9 key A0 b s4 h ⟨rest.toArray⟩ 0 W -> Calls Tryz.prog 39 #[.pointer (some ⟨g, 0, none⟩)] W fun e w' => ∃ v, e = .returned v /\ (v = Value.int .i64 en /\ QRd w g g2 q q5 q6 q9 key A0 b es h ⟨rest.toArray⟩ 0 w') := fun W hh => by
  refine (atEnd_any hh.at_).mono ?_
  rintro e w' ⟨rfl, hs, ha⟩
  exact ⟨_, rfl, by rw [hen], hh.read z hs (by rw [<- hes]; exact ha)⟩
 clear R0 hen hes
 go_upto_region 9 with fail
 rename_i K hK
 have HK := Lib.hid hK
 clear hK
 refine (wpIn_wide (n := 0)).1 ?_
 by_cases hn0 : en = 0
 case neg =>
  have hEN := fun W => eqErr en W
  rw [show (en == 0) = false by simpa using hn0] at hEN
  refine wpIn_region_pivG wide_wide 5 [.int .i64 0, .bool true, .bool true, .pointer (some ⟨q9, 0, none⟩), .pointer (some ⟨g, 0, none⟩), undef, .bool false, .bool false, .bool false, undef, undef, undef, undef, undef, .bool false, .bool false, undef, undef, undef, undef, undef, undef, .bool false] (fun W => QRd w g g2 q q5 q6 q9 key A0 b s4 h ⟨rest.toArray⟩ 0 W) (fun x W => x = Value.int .i64 en /\ QRd w g g2 q q5 q6 q9 key A0 b es h ⟨rest.toArray⟩ 0 W) (fun W W' hL hh => QRd.later hh hL) (fun x W W' hL hh => ⟨hh.1, hh.2.later hL⟩) (d) (by kernel_rfl) (by kernel_rfl) (by kernel_rfl) (by kernel_rfl) (by kernel_rfl) (by kernel_rfl) rfl (by kernel_rfl) (by kernel_rfl) ⟨?_, ?_, ?_, ?_, ?_, ?_, ?_, ?_, ?_, ?_, ?_, ?_, ?_, ?_, ?_, ?_, ?_, ?_, ?_, ?_, ?_, ?_, ?_, trivial⟩ ?_
  ·exact fun ac W dd xx he => stepOk_want rfl (op_load rfl (he.k 6) (ldErr (he.both hRA hRB).1) rfl)
  ·exact fun ac W dd xx he => stepOk_want rfl (op_binOp rfl (show ac.eval (.tmp 49) = .int .i64 0 from he.v 0 49) rfl (by kernel_rfl) (eqErr 0 W) rfl)
  ·exact fun ac W dd xx he => stepOk_want rfl (op_move rfl (show ac.eval (.tmp 50) = .bool true from he.v 1 50))
  ·exact fun ac W dd xx he => stepOk_yes (j := 2) (t := 51) (b := true) rfl rfl (show ac.eval (.tmp 51) = .bool true from he.v 2 51) (op_fieldAddr rfl (he.k 9) fReader0 rfl)
  ·exact fun ac W dd xx he => stepOk_yes (j := 2) (t := 51) (b := true) rfl rfl (show ac.eval (.tmp 51) = .bool true from he.v 2 51) (op_load rfl (show ac.eval (.tmp 52) = .pointer (some ⟨q9, 0, none⟩) from he.v 3 52) (loadPR (he.both hRA hRB).2.1) rfl)
  ·intro ac W he hA; have e53 := (show ac.eval (.tmp 53) = .pointer (some ⟨g, 0, none⟩) from he.v 4 53); have e51 : ac.eval (.tmp 51) = .bool true := he.v 2 51; exact stepOkY_yes (j := 2) (t := 51) (b := true) rfl rfl e51 (op_callFK (vs := #[.pointer (some ⟨g, 0, none⟩)]) rfl (by simp only [List.map_toArray, List.map_cons, List.map_nil, e53]) (enters_of Tryz.func39 (by kernel_rfl) rfl) ((hend W hA).mono fun e W' ⟨v, he', hv⟩ => ⟨v, he', v, rfl, hv⟩))
  ·intro ac W dd xx he; refine stepOk_yes (j := 2) (t := 51) (b := true) rfl rfl (show ac.eval (.tmp 51) = .bool true from he.v 2 51) ?_; have hx := (he.behind (he.waits (by kernel_rfl))).1; have e54 : ac.eval (.tmp 54) = .int .i64 en := (he.piv 54 (by kernel_rfl) rfl).trans hx; exact op_binOp rfl e54 rfl (by kernel_rfl) (hEN W) rfl
  ·exact fun ac W dd xx he => stepOk_want rfl (op_pick (b := true) rfl (show ac.eval (.tmp 51) = .bool true from he.v 2 51) (show ac.eval (.tmp 55) = .bool false from he.v 6 55))
  ·exact fun ac W dd xx he => stepOk_want rfl (op_move rfl (show ac.eval (.tmp 56) = .bool false from he.v 7 56))
  iterate 5 (exact fun ac W dd xx he => stepOk_no rfl rfl (show ac.eval (.tmp 57) = .bool false from he.v 8 57) (by decide) rfl)
  ·exact fun ac W dd xx he => stepOk_want rfl (op_pick (b := false) rfl (show ac.eval (.tmp 57) = .bool false from he.v 8 57) rfl)
  ·exact fun ac W dd xx he => stepOk_want rfl (op_move rfl (show ac.eval (.tmp 63) = .bool false from he.v 14 63))
  iterate 6 (exact fun ac W dd xx he => stepOk_no rfl rfl (show ac.eval (.tmp 64) = .bool false from he.v 15 64) (by decide) rfl)
  ·exact fun ac W dd xx he => stepOk_want rfl (op_pick (b := false) rfl (show ac.eval (.tmp 64) = .bool false from he.v 15 64) rfl)
  intro xs W9 x9 hB9 hx hk9 hgt
  have d9 := hB9.2
  have v22 : xs 22 = .bool false := hx 22 (by decide)
  have e71 := (hgt 22 71 (by decide) (by kernel_rfl)).trans v22
  refine ⟨op_callFP (vs := #[.bool false, .int .i64 350]) rfl (by simp only [List.map_toArray, List.map_cons, List.map_nil, e71]; rfl) (enters_of Tryz.func32 (by kernel_rfl) rfl) ((rmust_no 350 _).mono ?_)⟩
  rintro e W6 ⟨rfl, rfl⟩
  refine .inr ⟨_, rfl, ?_⟩
  exact peel_fail q q5 q6 h hwf _ 0 w _ Φ _ (putL_defers _ _ _ _) (hk9 (.tmp 4) (by kernel_rfl)) (hk9 (.tmp 5) (by kernel_rfl)) (hk9 (.tmp 6) (by kernel_rfl)) d9.k4 d9.k5 d9.k6 d9.low z.hq z.hq5 z.hq6 (hbad (by rw [decide_eq_false hn0]; rfl))
 subst hn0
 have hEN := fun W => eqErr 0 W
 obtain ⟨pa, hpa⟩ : ∃ x, paid h.amt h.exp = x := ⟨_, rfl⟩
 have hpaid := fun W => rpaid_any h.amt h.exp W
 rw [hpa] at hpaid
 have c64 := fun (W : World) (hr : Row W q 27 (hopC h)) => cHop2 hwf hr
 have c65 := fun (W : World) (hr : Row W q 27 (hopC h)) => cHop3 hwf hr
 cases pa with
 | false =>
  refine wpIn_region_pivG wide_wide 5 [.int .i64 0, .bool true, .bool true, .pointer (some ⟨q9, 0, none⟩), .pointer (some ⟨g, 0, none⟩), undef, .bool true, .bool true, .bool true, .pointer (some ⟨q, 64, none⟩), .int .i64 h.amt, .pointer (some ⟨q, 65, none⟩), .int .i64 h.exp, .bool false, .bool false, .bool false, undef, undef, undef, undef, undef, undef, .bool false] (fun W => QRd w g g2 q q5 q6 q9 key A0 b s4 h ⟨rest.toArray⟩ 0 W) (fun x W => x = Value.int .i64 0 /\ QRd w g g2 q q5 q6 q9 key A0 b es h ⟨rest.toArray⟩ 0 W) (fun W W' hL hh => QRd.later hh hL) (fun x W W' hL hh => ⟨hh.1, hh.2.later hL⟩) (d) (by kernel_rfl) (by kernel_rfl) (by kernel_rfl) (by kernel_rfl) (by kernel_rfl) (by kernel_rfl) rfl (by kernel_rfl) (by kernel_rfl) ⟨?_, ?_, ?_, ?_, ?_, ?_, ?_, ?_, ?_, ?_, ?_, ?_, ?_, ?_, ?_, ?_, ?_, ?_, ?_, ?_, ?_, ?_, ?_, trivial⟩ ?_
  ·exact fun ac W dd xx he => stepOk_want rfl (op_load rfl (he.k 6) (ldErr (he.both hRA hRB).1) rfl)
  ·exact fun ac W dd xx he => stepOk_want rfl (op_binOp rfl (show ac.eval (.tmp 49) = .int .i64 0 from he.v 0 49) rfl (by kernel_rfl) (eqErr 0 W) rfl)
  ·exact fun ac W dd xx he => stepOk_want rfl (op_move rfl (show ac.eval (.tmp 50) = .bool true from he.v 1 50))
  ·exact fun ac W dd xx he => stepOk_yes (j := 2) (t := 51) (b := true) rfl rfl (show ac.eval (.tmp 51) = .bool true from he.v 2 51) (op_fieldAddr rfl (he.k 9) fReader0 rfl)
  ·exact fun ac W dd xx he => stepOk_yes (j := 2) (t := 51) (b := true) rfl rfl (show ac.eval (.tmp 51) = .bool true from he.v 2 51) (op_load rfl (show ac.eval (.tmp 52) = .pointer (some ⟨q9, 0, none⟩) from he.v 3 52) (loadPR (he.both hRA hRB).2.1) rfl)
  ·intro ac W he hA; have e53 := (show ac.eval (.tmp 53) = .pointer (some ⟨g, 0, none⟩) from he.v 4 53); have e51 : ac.eval (.tmp 51) = .bool true := he.v 2 51; exact stepOkY_yes (j := 2) (t := 51) (b := true) rfl rfl e51 (op_callFK (vs := #[.pointer (some ⟨g, 0, none⟩)]) rfl (by simp only [List.map_toArray, List.map_cons, List.map_nil, e53]) (enters_of Tryz.func39 (by kernel_rfl) rfl) ((hend W hA).mono fun e W' ⟨v, he', hv⟩ => ⟨v, he', v, rfl, hv⟩))
  ·intro ac W dd xx he; refine stepOk_yes (j := 2) (t := 51) (b := true) rfl rfl (show ac.eval (.tmp 51) = .bool true from he.v 2 51) ?_; have hx := (he.behind (he.waits (by kernel_rfl))).1; have e54 : ac.eval (.tmp 54) = .int .i64 0 := (he.piv 54 (by kernel_rfl) rfl).trans hx; exact op_binOp rfl e54 rfl (by kernel_rfl) (hEN W) rfl
  ·exact fun ac W dd xx he => stepOk_want rfl (op_pick (b := true) rfl (show ac.eval (.tmp 51) = .bool true from he.v 2 51) (show ac.eval (.tmp 55) = .bool true from he.v 6 55))
  ·exact fun ac W dd xx he => stepOk_want rfl (op_move rfl (show ac.eval (.tmp 56) = .bool true from he.v 7 56))
  ·exact fun ac W dd xx he => stepOk_yes (j := 8) (t := 57) (b := true) rfl rfl (show ac.eval (.tmp 57) = .bool true from he.v 8 57) (op_fieldAddr rfl (he.k 4) fHop2 rfl)
  ·exact fun ac W dd xx he => stepOk_yes (j := 8) (t := 57) (b := true) rfl rfl (show ac.eval (.tmp 57) = .bool true from he.v 8 57) (op_load rfl (show ac.eval (.tmp 58) = .pointer (some ⟨q, 64, none⟩) from he.v 9 58) (ldI64 (c64 W (he.both hRA hRB).2.2.2)) rfl)
  ·exact fun ac W dd xx he => stepOk_yes (j := 8) (t := 57) (b := true) rfl rfl (show ac.eval (.tmp 57) = .bool true from he.v 8 57) (op_fieldAddr rfl (he.k 4) fHop3 rfl)
  ·exact fun ac W dd xx he => stepOk_yes (j := 8) (t := 57) (b := true) rfl rfl (show ac.eval (.tmp 57) = .bool true from he.v 8 57) (op_load rfl (show ac.eval (.tmp 60) = .pointer (some ⟨q, 65, none⟩) from he.v 11 60) (ldI64 (c65 W (he.both hRA hRB).2.2.2)) rfl)
  ·intro ac W dd xx he; refine stepOk_yes (j := 8) (t := 57) (b := true) rfl rfl (show ac.eval (.tmp 57) = .bool true from he.v 8 57) ?_; have e0 : ac.eval (.tmp 59) = .int .i64 h.amt := (show ac.eval (.tmp 59) = .int .i64 h.amt from he.v 10 59); have e1 : ac.eval (.tmp 61) = .int .i64 h.exp := (show ac.eval (.tmp 61) = .int .i64 h.exp from he.v 12 61); exact op_callF (vs := #[.int .i64 h.amt, .int .i64 h.exp]) rfl (by simp only [List.map_toArray, List.map_cons, List.map_nil, e0, e1]) (enters_of Tryz.func22 (by kernel_rfl) rfl) (((hpaid W)).mono fun e W' ⟨he', hw'⟩ => ⟨_, he', hw' ▸ Later.refl _, rfl⟩)
  ·exact fun ac W dd xx he => stepOk_want rfl (op_pick (b := true) rfl (show ac.eval (.tmp 57) = .bool true from he.v 8 57) (show ac.eval (.tmp 62) = .bool false from he.v 13 62))
  ·exact fun ac W dd xx he => stepOk_want rfl (op_move rfl (show ac.eval (.tmp 63) = .bool false from he.v 14 63))
  iterate 6 (exact fun ac W dd xx he => stepOk_no rfl rfl (show ac.eval (.tmp 64) = .bool false from he.v 15 64) (by decide) rfl)
  ·exact fun ac W dd xx he => stepOk_want rfl (op_pick (b := false) rfl (show ac.eval (.tmp 64) = .bool false from he.v 15 64) rfl)
  intro xs W9 x9 hB9 hx hk9 hgt
  have d9 := hB9.2
  have v22 : xs 22 = .bool false := hx 22 (by decide)
  have e71 := (hgt 22 71 (by decide) (by kernel_rfl)).trans v22
  refine ⟨op_callFP (vs := #[.bool false, .int .i64 350]) rfl (by simp only [List.map_toArray, List.map_cons, List.map_nil, e71]; rfl) (enters_of Tryz.func32 (by kernel_rfl) rfl) ((rmust_no 350 _).mono ?_)⟩
  rintro e W6 ⟨rfl, rfl⟩
  refine .inr ⟨_, rfl, ?_⟩
  exact peel_fail q q5 q6 h hwf _ 0 w _ Φ _ (putL_defers _ _ _ _) (hk9 (.tmp 4) (by kernel_rfl)) (hk9 (.tmp 5) (by kernel_rfl)) (hk9 (.tmp 6) (by kernel_rfl)) d9.k4 d9.k5 d9.k6 d9.low z.hq z.hq5 z.hq6 (hbad (by unfold fits; rw [hpa]; rfl))
 | true =>
  obtain ⟨nx, hnx⟩ : ∃ x, (h.next == zh) = x := ⟨_, rfl⟩
  obtain ⟨re, hre⟩ : ∃ x, rest.isEmpty = x := ⟨_, rfl⟩
  have hends := fun W => rends_any h hwf W
  rw [hnx] at hends
  have hstr := fun W => eqStr0 rest W
  rw [hre] at hstr
  obtain ⟨vv, hvv⟩ : ∃ x, (nx == re) = x := ⟨_, rfl⟩
  have hbs := fun W => eqBools nx re W
  rw [hvv] at hbs
  have hft : fits h rest = vv := by unfold fits; rw [hpa, hnx, hre, hvv]; rfl
  refine wpIn_region_pivG wide_wide 5 [.int .i64 0, .bool true, .bool true, .pointer (some ⟨q9, 0, none⟩), .pointer (some ⟨g, 0, none⟩), undef, .bool true, .bool true, .bool true, .pointer (some ⟨q, 64, none⟩), .int .i64 h.amt, .pointer (some ⟨q, 65, none⟩), .int .i64 h.exp, .bool true, .bool true, .bool true, .agg (hopC h), .agg (hopC h), .bool nx, .string ⟨rest.toArray⟩, .bool re, .bool vv, .bool vv] (fun W => QRd w g g2 q q5 q6 q9 key A0 b s4 h ⟨rest.toArray⟩ 0 W) (fun x W => x = Value.int .i64 0 /\ QRd w g g2 q q5 q6 q9 key A0 b es h ⟨rest.toArray⟩ 0 W) (fun W W' hL hh => QRd.later hh hL) (fun x W W' hL hh => ⟨hh.1, hh.2.later hL⟩) (d) (by kernel_rfl) (by kernel_rfl) (by kernel_rfl) (by kernel_rfl) (by kernel_rfl) (by kernel_rfl) rfl (by kernel_rfl) (by kernel_rfl) ⟨?_, ?_, ?_, ?_, ?_, ?_, ?_, ?_, ?_, ?_, ?_, ?_, ?_, ?_, ?_, ?_, ?_, ?_, ?_, ?_, ?_, ?_, ?_, trivial⟩ ?_
  ·exact fun ac W dd xx he => stepOk_want rfl (op_load rfl (he.k 6) (ldErr (he.both hRA hRB).1) rfl)
  ·exact fun ac W dd xx he => stepOk_want rfl (op_binOp rfl (show ac.eval (.tmp 49) = .int .i64 0 from he.v 0 49) rfl (by kernel_rfl) (eqErr 0 W) rfl)
  ·exact fun ac W dd xx he => stepOk_want rfl (op_move rfl (show ac.eval (.tmp 50) = .bool true from he.v 1 50))
  ·exact fun ac W dd xx he => stepOk_yes (j := 2) (t := 51) (b := true) rfl rfl (show ac.eval (.tmp 51) = .bool true from he.v 2 51) (op_fieldAddr rfl (he.k 9) fReader0 rfl)
  ·exact fun ac W dd xx he => stepOk_yes (j := 2) (t := 51) (b := true) rfl rfl (show ac.eval (.tmp 51) = .bool true from he.v 2 51) (op_load rfl (show ac.eval (.tmp 52) = .pointer (some ⟨q9, 0, none⟩) from he.v 3 52) (loadPR (he.both hRA hRB).2.1) rfl)
  ·intro ac W he hA; have e53 := (show ac.eval (.tmp 53) = .pointer (some ⟨g, 0, none⟩) from he.v 4 53); have e51 : ac.eval (.tmp 51) = .bool true := he.v 2 51; exact stepOkY_yes (j := 2) (t := 51) (b := true) rfl rfl e51 (op_callFK (vs := #[.pointer (some ⟨g, 0, none⟩)]) rfl (by simp only [List.map_toArray, List.map_cons, List.map_nil, e53]) (enters_of Tryz.func39 (by kernel_rfl) rfl) ((hend W hA).mono fun e W' ⟨v, he', hv⟩ => ⟨v, he', v, rfl, hv⟩))
  ·intro ac W dd xx he; refine stepOk_yes (j := 2) (t := 51) (b := true) rfl rfl (show ac.eval (.tmp 51) = .bool true from he.v 2 51) ?_; have hx := (he.behind (he.waits (by kernel_rfl))).1; have e54 : ac.eval (.tmp 54) = .int .i64 0 := (he.piv 54 (by kernel_rfl) rfl).trans hx; exact op_binOp rfl e54 rfl (by kernel_rfl) (hEN W) rfl
  ·exact fun ac W dd xx he => stepOk_want rfl (op_pick (b := true) rfl (show ac.eval (.tmp 51) = .bool true from he.v 2 51) (show ac.eval (.tmp 55) = .bool true from he.v 6 55))
  ·exact fun ac W dd xx he => stepOk_want rfl (op_move rfl (show ac.eval (.tmp 56) = .bool true from he.v 7 56))
  ·exact fun ac W dd xx he => stepOk_yes (j := 8) (t := 57) (b := true) rfl rfl (show ac.eval (.tmp 57) = .bool true from he.v 8 57) (op_fieldAddr rfl (he.k 4) fHop2 rfl)
  ·exact fun ac W dd xx he => stepOk_yes (j := 8) (t := 57) (b := true) rfl rfl (show ac.eval (.tmp 57) = .bool true from he.v 8 57) (op_load rfl (show ac.eval (.tmp 58) = .pointer (some ⟨q, 64, none⟩) from he.v 9 58) (ldI64 (c64 W (he.both hRA hRB).2.2.2)) rfl)
  ·exact fun ac W dd xx he => stepOk_yes (j := 8) (t := 57) (b := true) rfl rfl (show ac.eval (.tmp 57) = .bool true from he.v 8 57) (op_fieldAddr rfl (he.k 4) fHop3 rfl)
  ·exact fun ac W dd xx he => stepOk_yes (j := 8) (t := 57) (b := true) rfl rfl (show ac.eval (.tmp 57) = .bool true from he.v 8 57) (op_load rfl (show ac.eval (.tmp 60) = .pointer (some ⟨q, 65, none⟩) from he.v 11 60) (ldI64 (c65 W (he.both hRA hRB).2.2.2)) rfl)
  ·intro ac W dd xx he; refine stepOk_yes (j := 8) (t := 57) (b := true) rfl rfl (show ac.eval (.tmp 57) = .bool true from he.v 8 57) ?_; have e0 : ac.eval (.tmp 59) = .int .i64 h.amt := (show ac.eval (.tmp 59) = .int .i64 h.amt from he.v 10 59); have e1 : ac.eval (.tmp 61) = .int .i64 h.exp := (show ac.eval (.tmp 61) = .int .i64 h.exp from he.v 12 61); exact op_callF (vs := #[.int .i64 h.amt, .int .i64 h.exp]) rfl (by simp only [List.map_toArray, List.map_cons, List.map_nil, e0, e1]) (enters_of Tryz.func22 (by kernel_rfl) rfl) (((hpaid W)).mono fun e W' ⟨he', hw'⟩ => ⟨_, he', hw' ▸ Later.refl _, rfl⟩)
  ·exact fun ac W dd xx he => stepOk_want rfl (op_pick (b := true) rfl (show ac.eval (.tmp 57) = .bool true from he.v 8 57) (show ac.eval (.tmp 62) = .bool true from he.v 13 62))
  ·exact fun ac W dd xx he => stepOk_want rfl (op_move rfl (show ac.eval (.tmp 63) = .bool true from he.v 14 63))
  ·exact fun ac W dd xx he => stepOk_yes (j := 15) (t := 64) (b := true) rfl rfl (show ac.eval (.tmp 64) = .bool true from he.v 15 64) (op_load rfl (he.k 4) (loadHopR hwf (he.both hRA hRB).2.2.2) rfl)
  ·intro ac W dd xx he; refine stepOk_yes (j := 15) (t := 64) (b := true) rfl rfl (show ac.eval (.tmp 64) = .bool true from he.v 15 64) ?_; have e0 : ac.eval (.tmp 65) = .agg (hopC h) := (show ac.eval (.tmp 65) = .agg (hopC h) from he.v 16 65); exact op_build (vs := #[(0, .agg (hopC h))]) rfl (by simp only [List.map_toArray, List.map_cons, List.map_nil, e0]) (bHopR hwf W) rfl
  ·intro ac W dd xx he; refine stepOk_yes (j := 15) (t := 64) (b := true) rfl rfl (show ac.eval (.tmp 64) = .bool true from he.v 15 64) ?_; have e0 : ac.eval (.tmp 66) = .agg (hopC h) := (show ac.eval (.tmp 66) = .agg (hopC h) from he.v 17 66); exact op_callF (vs := #[.agg (hopC h)]) rfl (by simp only [List.map_toArray, List.map_cons, List.map_nil, e0]) (enters_of Tryz.func23 (by kernel_rfl) rfl) (((hends W)).mono fun e W' ⟨he', hb⟩ => ⟨_, he', hb, rfl⟩)
  ·exact fun ac W dd xx he => stepOk_yes (j := 15) (t := 64) (b := true) rfl rfl (show ac.eval (.tmp 64) = .bool true from he.v 15 64) (op_load rfl (he.k 5) (ldStr (he.both hRA hRB).2.2.1) rfl)
  ·exact fun ac W dd xx he => stepOk_yes (j := 15) (t := 64) (b := true) rfl rfl (show ac.eval (.tmp 64) = .bool true from he.v 15 64) (op_binOp rfl (show ac.eval (.tmp 68) = .string ⟨rest.toArray⟩ from he.v 19 68) rfl (by kernel_rfl) (hstr W) rfl)
  ·exact fun ac W dd xx he => stepOk_yes (j := 15) (t := 64) (b := true) rfl rfl (show ac.eval (.tmp 64) = .bool true from he.v 15 64) (op_binOp rfl (show ac.eval (.tmp 67) = .bool nx from he.v 18 67) (show ac.eval (.tmp 69) = .bool re from he.v 20 69) (by kernel_rfl) (hbs W) rfl)
  ·exact fun ac W dd xx he => stepOk_want rfl (op_pick (b := true) rfl (show ac.eval (.tmp 64) = .bool true from he.v 15 64) (show ac.eval (.tmp 70) = .bool vv from he.v 21 70))
  intro xs W9 x9 hB9 hx hk9 hgt
  have d9 := hB9.2
  have v22 : xs 22 = .bool vv := hx 22 (by decide)
  rw [hft] at hbad hgood
  cases vv with
  | false =>
   have e71 := (hgt 22 71 (by decide) (by kernel_rfl)).trans v22
   refine ⟨op_callFP (vs := #[.bool false, .int .i64 350]) rfl (by simp only [List.map_toArray, List.map_cons, List.map_nil, e71]; rfl) (enters_of Tryz.func32 (by kernel_rfl) rfl) ((rmust_no 350 _).mono ?_)⟩
   rintro e W6 ⟨rfl, rfl⟩
   refine .inr ⟨_, rfl, ?_⟩
   exact peel_fail q q5 q6 h hwf _ 0 w _ Φ _ (putL_defers _ _ _ _) (hk9 (.tmp 4) (by kernel_rfl)) (hk9 (.tmp 5) (by kernel_rfl)) (hk9 (.tmp 6) (by kernel_rfl)) d9.k4 d9.k5 d9.k6 d9.low z.hq z.hq5 z.hq6 (hbad (by rfl))
  | true =>
   have e71 := (hgt 22 71 (by decide) (by kernel_rfl)).trans v22
   refine ⟨op_callFK (vs := #[.bool true, .int .i64 350]) rfl (by simp only [List.map_toArray, List.map_cons, List.map_nil, e71]; rfl) (enters_of Tryz.func32 (by kernel_rfl) rfl) ((rmust_ok 350 _).mono ?_)⟩
   rintro e W6 ⟨rfl, rfl⟩
   refine ⟨_, rfl, ?_⟩
   simp only [initL, lastL, putL, Nat.reduceAdd, Act.put, List.setIfInBounds_toArray, List.set_cons_succ, List.set_cons_zero]
   clear hx v22 e71 hk9 hgt hB9 hbad hEN hpaid c64 c65 hends hstr hRA hRB hend hbs
   refine HK.out _ _ ?_
   clear HK
   go_upto_region 10 with fail
   rename_i K hK
   have HK := Lib.hid hK
   clear hK
   refine (wpIn_wide (n := 0)).1 ?_
   refine wpIn_region_chain wide_wide [.agg (hopC h), .string ⟨rest.toArray⟩, undef, undef] [2, 3] (fun m W => QRd w g g2 q q5 q6 q9 key A0 b es h ⟨rest.toArray⟩ 0 W) (fun m W W' hL hh => hh.later hL) d9 (by kernel_rfl) (by kernel_rfl) (by kernel_rfl) (by kernel_rfl) (by kernel_rfl) (by kernel_rfl) rfl (by decide) (by kernel_rfl) ⟨?_, ?_, ?_, ?_, trivial⟩ ?_
   ·exact chStep_val (by decide) fun a W m he hA => stepOk_want rfl (op_load rfl (he.k 4) (loadHopR hwf hA.k4) rfl)
   ·exact chStep_val (by decide) fun a W m he hA => stepOk_want rfl (op_load rfl (he.k 5) (ldStr ((hA.k5.cell 0).trans rfl)) rfl)
   ·refine chStep_put (k := 0) (by decide) (.inl rfl) fun a W he hA => ⟨rfl, ?_⟩
    obtain ⟨W2, s1, s2, s3⟩ := storeHop hwf hwf hA.k4
    exact op_storeK rfl (he.k 4) (show a.eval (.tmp 73) = .agg (hopC h) from he.v 0 73) s1 ⟨_, rfl, hA.putHop z s2 s3⟩
   ·refine chStep_put (k := 1) (by decide) (.inr (by kernel_rfl)) fun a W he hA => ⟨rfl, ?_⟩
    exact op_storeK rfl (he.k 5) (show a.eval (.tmp 74) = .string ⟨rest.toArray⟩ from he.v 1 74) (stStr ((hA.k5.cell 0).trans rfl) (hA.k5.frozen 0)) ⟨_, rfl, hA.putStr z _⟩
   ·intro xs W10 hA hx hk10 hgt
    have dA : QRd w g g2 q q5 q6 q9 key A0 b es h ⟨rest.toArray⟩ 0 W10 := hA
    refine last_store rfl rfl (hk10 (.tmp 6) (by kernel_rfl)) rfl (stErr ((dA.k6.cell 0).trans rfl) (dA.k6.frozen 0)) ?_
    have d11 := dA.putErr z 0
    generalize W10.setCell ⟨q6, 0, none⟩ (.int .i64 0) = W11 at *
    simp only [initL, lastL, putL, Nat.reduceAdd, Act.put, List.setIfInBounds_toArray, List.set_cons_succ, List.set_cons_zero]
    clear hA dA hx hk10 hgt d9
    refine HK.out _ _ ?_
    have c5 : W11.cell? ⟨q5, 0, none⟩ = some (.string ⟨rest.toArray⟩) := (d11.k5.cell 0).trans rfl
    have c6 : W11.cell? ⟨q6, 0, none⟩ = some (.int .i64 0) := (d11.k6.cell 0).trans rfl
    go_wp2_with fail
    refine leaves_cons (f := 30) (args := #[.pointer (some ⟨q6, 0, none⟩), .func (.func 31) #[] #[.pointer (some ⟨q, 0, none⟩), .pointer (some ⟨q5, 0, none⟩)]]) (by simp) (by simp [go_sem]) ?_
    refine (rcaught_idle _ _ _).mono ?_
    rintro e u' w'' ⟨rfl, rfl, rfl⟩
    show ∃ v, _ /\ _
    exact ⟨_, results_ccc rfl _ _ _ _ _ 27 (hopC h) _ _ _ rfl rfl rfl d11.k4 Tryz.underlying27 rfl (by rw [hopC_size hwf]; exact infoHop) (loadStrVar c5) (loadErr c6), hgood (by rfl) _ d11.low⟩
def Rt.qvals (key b : List UInt8) : List Value := [.agg (hC (q1 b).2.1), .int .i64 (q2 b).2.1, .int .i64 (q3 b).2.1, .agg (hopC (hopOf key b))]
theorem peel_tail (cd : Code) (hcd : ((Tryz.prog.funcs[(12 : Nat)]?.bind (·.body)).bind (fromR 6)) = some cd) (w W : World) (key b : List UInt8) (hk : key.length = 32) (g2 q q5 q6 n cS : Nat) (S : Option Addr) (hz : g2 = w.heap.size /\ q = w.heap.size + 1 /\ q5 = w.heap.size + 2 /\ q6 = w.heap.size + 3) (hs : w.heap.size + 4 <= W.heap.size) (hn : b.length = n) (hnl : n <= 1000) (hSc : n <= cS) (hrd : Rd W S b)
  (k2 : Row W g2 25 (hC key)) (k4 : Row W q 27 (hopC noHop)) (k5 : Row W q5 9 #[.string ⟨#[]⟩]) (k6 : Row W q6 28 #[.int .i64 0]) (hb : Below w.heap.size w W)
  (Φ : Ending -> World -> Prop) (hΦ : ∀ w', Below w.heap.size w w' -> Φ (.returned (.tuple #[.agg (hopC (peelB key b).1), .string ⟨(peelB key b).2.1.toArray⟩, .int .i64 (peelB key b).2.2])) w')
  (u0 u1 u3 u7 u9 u10 u11 u12 u13 u14 u15 u16 u17 u18 u19 u20 u21 u22 u23 u24 u25 u26 u27 u28 u29 u30 u31 u32 u33 u34 u35 u36 u37 u38 u39 u40 u41 u42 u43 u44 u45 u46 u47 u48 u49 u50 u51 u52 u53 u54 u55 u56 u57 u58 u59 u60 u61 u62 u63 u64 u65 u66 u67 u68 u69 u70 u71 u72 u73 u74 : Value) :
  cd.wp Tryz.prog (bodyPostD Tryz.prog Tryz.f12 Φ) { tmps := #[u0, u1, .pointer (some ⟨g2, 0, none⟩), u3, .pointer (some ⟨q, 0, none⟩), .pointer (some ⟨q5, 0, none⟩), .pointer (some ⟨q6, 0, none⟩), u7, .slice S n cS, u9, u10, u11, u12, u13, u14, u15, u16, u17, u18, u19, u20, u21, u22, u23, u24, u25, u26, u27, u28, u29, u30, u31, u32, u33, u34, u35, u36, u37, u38, u39, u40, u41, u42, u43, u44, u45, u46, u47, u48, u49, u50, u51, u52, u53, u54, u55, u56, u57, u58, u59, u60, u61, u62, u63, u64, u65, u66, u67, u68, u69, u70, u71, u72, u73, u74], defers := [{ target := .fn (.func 30) #[], args := #[.pointer (some ⟨q6, 0, none⟩), .func (.func 31) #[] #[.pointer (some ⟨q, 0, none⟩), .pointer (some ⟨q5, 0, none⟩)]] }] } W := by
 conv at hcd => lhs; whnf
 injection hcd with hcd
 subst hcd
 have hrdd := atRead_any S n cS b W hn (by omega) hrd
 have HZ := Lib.hid hz
 have HS := Lib.hid hs
 have HΦ := Lib.hid hΦ
 have HB := Lib.hid hb
 have K2 := Lib.hid k2
 have K4 := Lib.hid k4
 have K5 := Lib.hid k5
 have K6 := Lib.hid k6
 clear hz hs hΦ hb k2 k4 k5 k6 hrd hn
 go_upto_region 7 with (first
  | (go_at_call 35; refine hrdd.mono ?_; clear hrdd; rintro e w2 ⟨g, A0, rfl, hat, hAb, hgw, hbg⟩; obtain ⟨w3, hst, k9, hL3⟩ := newReader w2 g)
  | (guard_target =~ wpList _ _ _ (_ :: _) _ _; refine wpList_build rfl 83 _ rfl #[(0, .pointer (some ⟨g, 0, none⟩))] (by simp only [List.map_toArray, List.map_cons, List.map_nil]; rfl) (buildReader _ _) ?_)
  | (with_reducible refine wpList_alloc rfl 83 rfl (allocReader _) ?_)
  | (guard_target =~ wpList _ _ _ (_ :: _) _ _; refine wpList_store rfl 83 (.tmp 9) (.tmp 34) rfl (.pointer (some ⟨w2.heap.size, 0, none⟩)) (.agg #[.pointer (some ⟨g, 0, none⟩)]) rfl rfl hst ?_)
  | fail)
 obtain ⟨q9, hq9⟩ : ∃ q, q = w2.heap.size := ⟨_, rfl⟩
 rw [<- hq9] at k9 ⊢
 rename_i K hK
 have hgq9 : g < q9 := by have := hat.lt; omega
 have z : QAt w g g2 q q5 q6 q9 A0 b := by
  have h1 := HZ.out
  have h2 := HS.out
  have h3 := hbg.size
  refine ⟨by omega, by omega, by omega, by omega, by omega, by omega, by omega, fun bl o e hne => ?_⟩
  have := hAb bl o e hne
  omega
 have hQR : QRd w g g2 q q5 q6 q9 key A0 b (qSt b 0) noHop ⟨#[]⟩ 0 w3 := ⟨(HB.out.trans (hbg.mono HB.out.size)).trans (hL3.below.mono (Nat.le_trans HB.out.size hbg.size)), hat.later hL3, (K2.out.belowAll hbg).later hL3, (K4.out.belowAll hbg).later hL3, (K5.out.belowAll hbg).later hL3, (K6.out.belowAll hbg).later hL3, k9⟩
 have HK := Lib.hid hK
 have H9 := Lib.hid hq9
 have Z := Lib.hid z
 clear hK hq9 hat hAb hgw hbg hst hL3 k9 K2 K4 K5 K6 HB z hgq9
 have hbad : okPeel key b = false -> ∀ w', Below w.heap.size w w' -> Φ (.returned (.tuple #[.agg (hopC noHop), .string ⟨#[]⟩, .int .i64 350])) w' := fun hno w' hb => by
  have h1 := HΦ.out w' hb
  have hpb : peelB key b = (noHop, [], 350) := by unfold peelB; rw [hno]; rfl
  rw [hpb] at h1
  exact h1
 have HBAD := Lib.hid hbad
 have hbadk : ∀ k, k < 3 -> qErr b k ≠ 0 -> okPeel key b = false := fun k hk3 hne => by
  unfold okPeel
  have : okQ b = false := by
   unfold okQ
   rw [List.all_eq_false]
   exact ⟨k, List.mem_range.2 hk3, by simpa using hne⟩
  rw [this]
  rfl
 clear hbad
 try simp only [Act.put, List.setIfInBounds_toArray, List.set_cons_zero, List.set_cons_succ]
 refine (wpIn_wide (n := 0)).1 ?_
 refine wpIn_region_cv wide_wide [.agg (hC key), .agg #[.pointer (some ⟨g, 0, none⟩)], undef, .agg #[.pointer (some ⟨g, 0, none⟩)], undef, .agg #[.pointer (some ⟨g, 0, none⟩)], undef, undef] [2, 4, 6, 7] (fun rs W => QRd w g g2 q q5 q6 q9 key A0 b (qSt b (min rs.length 3)) noHop ⟨#[]⟩ 0 W /\ rs = (qvals key b).take rs.length /\ ∀ j, j < min rs.length 3 -> qErr b j = 0) (fun rs W W' hL h => ⟨h.1.later hL, h.2⟩) ⟨hQR, rfl, fun j hj => absurd hj (by simp)⟩ (by kernel_rfl) (by kernel_rfl) (by kernel_rfl) (by kernel_rfl) (by kernel_rfl) (by kernel_rfl) rfl (by decide) (by kernel_rfl) ⟨?_, ?_, ?_, ?_, ?_, ?_, ?_, ?_, trivial⟩ ?_
 ·exact cvStep_val (by decide) fun a W rs he hA => stepOk_want rfl (op_load rfl (he.k 2) (loadH hk hA.1.k2) rfl)
 ·exact cvStep_val (by decide) fun a W rs he hA => stepOk_want rfl (op_load rfl (he.k 9) (loadReader hA.1.k9) rfl)
 ·refine cvStep_put (k := 0) (by decide) (.inl rfl) fun a W rs hrs he hA => ⟨rfl, ?_⟩
  obtain ⟨hA1, hA2, hA3⟩ := hA
  rw [hrs] at hA1 hA2 hA3
  have e36 : a.eval (.tmp 36) = .agg #[.pointer (some ⟨g, 0, none⟩)] := he.v 1 36
  refine op_callFP (vs := #[.agg #[.pointer (some ⟨g, 0, none⟩)], .int .i64 350]) rfl (by simp only [List.map_toArray, List.map_cons, List.map_nil, e36]; rfl) (enters_of Tryz.func36 (by kernel_rfl) rfl) ((rrHash_any g A0 b _ _ 350 W hA1.at_).mono ?_)
  rintro e W' ⟨hs, hat, ⟨h0, rfl⟩ | ⟨h0, rfl⟩⟩
  ·refine .inl ⟨_, rfl, _, rfl, ?_⟩
   rw [hA2]
   refine ⟨hA1.read Z.out hs hat, rfl, fun j hj => ?_⟩
   have hj2 : j < 1 := hj
   by_cases e : j = 0
   ·rw [e]; exact h0
   ·exact hA3 j (show j < 0 by omega)
  ·refine .inr ⟨_, rfl, ?_⟩
   have d2 := hA1.read Z.out hs (s' := qSt b 1) hat
   exact peel_fail q q5 q6 noHop noHop_wf _ 0 w W' Φ a he.defers (he.k 4) (he.k 5) (he.k 6) d2.k4 d2.k5 d2.k6 d2.low Z.out.hq Z.out.hq5 Z.out.hq6 (HBAD.out (hbadk 0 (by decide) h0))
 ·exact cvStep_val (by decide) fun a W rs he hA => stepOk_want rfl (op_load rfl (he.k 9) (loadReader hA.1.k9) rfl)
 ·refine cvStep_put (k := 1) (by decide) (.inr (by kernel_rfl)) fun a W rs hrs he hA => ⟨rfl, ?_⟩
  obtain ⟨hA1, hA2, hA3⟩ := hA
  rw [hrs] at hA1 hA2 hA3
  have e38 : a.eval (.tmp 38) = .agg #[.pointer (some ⟨g, 0, none⟩)] := he.v 3 38
  refine op_callFP (vs := #[.agg #[.pointer (some ⟨g, 0, none⟩)], .int .i64 1125899906842624, .int .i64 350]) rfl (by simp only [List.map_toArray, List.map_cons, List.map_nil, e38]; rfl) (enters_of Tryz.func37 (by kernel_rfl) rfl) ((rrNum_any g A0 b _ _ 1125899906842624 350 W hA1.at_).mono ?_)
  rintro e W' ⟨hs, hat, ⟨h0, rfl⟩ | ⟨h0, rfl⟩⟩
  ·refine .inl ⟨_, rfl, _, rfl, ?_⟩
   rw [hA2]
   refine ⟨hA1.read Z.out hs hat, rfl, fun j hj => ?_⟩
   have hj2 : j < 2 := hj
   by_cases e : j = 1
   ·rw [e]; exact h0
   ·exact hA3 j (show j < 1 by omega)
  ·refine .inr ⟨_, rfl, ?_⟩
   have d2 := hA1.read Z.out hs (s' := qSt b 2) hat
   exact peel_fail q q5 q6 noHop noHop_wf _ 0 w W' Φ a he.defers (he.k 4) (he.k 5) (he.k 6) d2.k4 d2.k5 d2.k6 d2.low Z.out.hq Z.out.hq5 Z.out.hq6 (HBAD.out (hbadk 1 (by decide) h0))
 ·exact cvStep_val (by decide) fun a W rs he hA => stepOk_want rfl (op_load rfl (he.k 9) (loadReader hA.1.k9) rfl)
 ·refine cvStep_put (k := 2) (by decide) (.inr (by kernel_rfl)) fun a W rs hrs he hA => ⟨rfl, ?_⟩
  obtain ⟨hA1, hA2, hA3⟩ := hA
  rw [hrs] at hA1 hA2 hA3
  have e40 : a.eval (.tmp 40) = .agg #[.pointer (some ⟨g, 0, none⟩)] := he.v 5 40
  refine op_callFP (vs := #[.agg #[.pointer (some ⟨g, 0, none⟩)], .int .i64 2147483647, .int .i64 350]) rfl (by simp only [List.map_toArray, List.map_cons, List.map_nil, e40]; rfl) (enters_of Tryz.func37 (by kernel_rfl) rfl) ((rrNum_any g A0 b _ _ 2147483647 350 W hA1.at_).mono ?_)
  rintro e W' ⟨hs, hat, ⟨h0, rfl⟩ | ⟨h0, rfl⟩⟩
  ·refine .inl ⟨_, rfl, _, rfl, ?_⟩
   rw [hA2]
   refine ⟨hA1.read Z.out hs hat, rfl, fun j hj => ?_⟩
   have hj2 : j < 3 := hj
   by_cases e : j = 2
   ·rw [e]; exact h0
   ·exact hA3 j (show j < 2 by omega)
  ·refine .inr ⟨_, rfl, ?_⟩
   have d2 := hA1.read Z.out hs (s' := qSt b 3) hat
   exact peel_fail q q5 q6 noHop noHop_wf _ 0 w W' Φ a he.defers (he.k 4) (he.k 5) (he.k 6) d2.k4 d2.k5 d2.k6 d2.low Z.out.hq Z.out.hq5 Z.out.hq6 (HBAD.out (hbadk 2 (by decide) h0))
 ·refine cvStep_put (k := 3) (by decide) (.inr (by kernel_rfl)) fun a W rs hrs he hA => ⟨rfl, ?_⟩
  obtain ⟨hA1, hA2, hA3⟩ := hA
  rw [hrs] at hA1 hA2 hA3
  have hok : okQ b = true := List.all_eq_true.2 fun j hj => decide_eq_true (hA3 j (List.mem_range.1 hj))
  have hwf := hopOf_wf hk hok
  have e0 : a.eval (.tmp 35) = .agg (hC (hopOf key b).key) := he.v 0 35
  have e1 : a.eval (.tmp 37) = .agg (hC (hopOf key b).next) := (he.res 0 37 (by decide) (by kernel_rfl) rfl).trans (by rw [hA2]; rfl)
  have e2 : a.eval (.tmp 39) = .int .i64 (hopOf key b).amt := (he.res 1 39 (by decide) (by kernel_rfl) rfl).trans (by rw [hA2]; rfl)
  have e3 : a.eval (.tmp 41) = .int .i64 (hopOf key b).exp := (he.res 2 41 (by decide) (by kernel_rfl) rfl).trans (by rw [hA2]; rfl)
  refine Oper.wp_mono ?_ (op_build (R := fun v W' => v = .agg (hopC (hopOf key b))) (vs := #[(0, .agg (hC (hopOf key b).key)), (1, .agg (hC (hopOf key b).next)), (2, .int .i64 (hopOf key b).amt), (3, .int .i64 (hopOf key b).exp)]) rfl (by simp only [List.map_toArray, List.map_cons, List.map_nil, e0, e1, e2, e3]) (buildHopF hwf W) rfl)
  rintro a' W' ⟨v, h1, h2, rfl⟩
  refine ⟨_, h1, ?_⟩
  rw [hA2]
  exact ⟨hA1.later h2, rfl, hA3⟩
 ·intro xs W7 hA hx hk7 hget
  obtain ⟨hA1, hA2, hA3⟩ := hA
  have hok : okQ b = true := List.all_eq_true.2 fun j hj => decide_eq_true (hA3 j (List.mem_range.1 hj))
  have hwf := hopOf_wf hk hok
  have v42 : xs 7 = .agg (hopC (hopOf key b)) := congrArg (fun l => l.getD 3 undef) hA2
  obtain ⟨W8, hst8, k48, hg8⟩ := storeHop noHop_wf hwf hA1.k4
  refine last_store rfl rfl (hk7 (.tmp 4) (by kernel_rfl)) ((hget 7 42 (by decide) rfl).trans v42) hst8 ?_
  simp only [initL, lastL, putL, Nat.reduceAdd, Act.put, List.setIfInBounds_toArray, List.set_cons_succ, List.set_cons_zero]
  have d8 : QRd w g g2 q q5 q6 q9 key A0 b (q3 b).1 (hopOf key b) ⟨#[]⟩ 0 W8 := hA1.putHop Z.out k48 hg8
  have HOK := Lib.hid hok
  clear hx hk7 hget hA2 v42 hA1 hA3 hst8 k48 hg8 hok hbadk hQR
  refine HK.out _ _ ?_
  clear HK
  obtain ⟨rest, hrest⟩ : ∃ l, (q4 b).2.1 = l := ⟨_, rfl⟩
  obtain ⟨e4, he4⟩ : ∃ l, (q4 b).2.2 = l := ⟨_, rfl⟩
  obtain ⟨s4, hs4⟩ : ∃ l, (q4 b).1 = l := ⟨_, rfl⟩
  have htx := atText_any 512 d8.at_
  have htx : Calls Tryz.prog 38 #[.pointer (some ⟨g, 0, none⟩), .int .i64 512] W8 fun e w' => e = .returned (.tuple #[.string ⟨rest.toArray⟩, .int .i64 e4]) /\ Same (fun k => k < W8.heap.size /\ k ≠ g) W8 w' /\ RAt w' g A0 b s4.1 s4.2 := by rw [<- hrest, <- he4, <- hs4]; exact htx
  have c9 : W8.cell? ⟨q9, 0, none⟩ = some (.pointer (some ⟨g, 0, none⟩)) := (d8.k9.cell 0).trans rfl
  have HREST := Lib.hid hrest
  have HE4 := Lib.hid he4
  have HS4 := Lib.hid hs4
  have D8 := Lib.hid d8
  clear hrest he4 hs4 d8
  go_upto_region 8 with fail
  rename_i K8 hK8
  have HK8 := Lib.hid hK8
  clear hK8
  go_wp2_with (first
   | (go_at_call 38; refine htx.mono ?_; clear htx; rintro e w9 ⟨rfl, hs9, hat9⟩; have d9 := D8.out.read Z.out (s' := s4) hs9 hat9; have c5 : w9.cell? ⟨q5, 0, none⟩ = some (.string ⟨#[]⟩) := (d9.k5.cell 0).trans rfl; have f5 := d9.k5.frozen 0; have d95 := d9.putStr Z.out ⟨rest.toArray⟩; have c6 : (w9.setCell ⟨q5, 0, none⟩ (.string ⟨rest.toArray⟩)).cell? ⟨q6, 0, none⟩ = some (.int .i64 0) := (d95.k6.cell 0).trans rfl; have f6 := d95.k6.frozen 0)
   | fail)
  have d10 := d95.putErr Z.out e4
  generalize (w9.setCell ⟨q5, 0, none⟩ (.string ⟨rest.toArray⟩)).setCell ⟨q6, 0, none⟩ (.int .i64 e4) = w10 at *
  clear c5 f5 c6 f6 d95 d9 hs9 hat9 c9
  have hpeel : okPeel key b = (decide (e4 = 0) && (decide ((Wr.endR s4.1 s4.2).2 = 0) && fits (hopOf key b) rest)) := by unfold okPeel qEnd; rw [HOK.out, HE4.out, HREST.out, HS4.out]; rfl
  refine HK8.out _ _ (peel_fin _ (by kernel_rfl) w w10 key b rest (hopOf key b) hwf g g2 q q5 q6 q9 A0 s4 e4 Z.out d10 Φ (fun hno => HBAD.out (by rw [hpeel]; exact hno)) (fun hyes w' hb => ?_) _ _ _ _ _ _ _ _ _ _ _ _ _ _ _ _ _ _ _ _ _ _ _ _ _ _ _ _ _ _ _ _ _ _ _ _ _ _ _ _ _ _ _ _ _ _ _ _ _ _ _ _ _ _ _ _ _ _ _ _ _ _ _ _ _ _ _ _ _ _ _)
  have h1 := HΦ.out w' hb
  have hpb : peelB key b = (hopOf key b, rest, 0) := by unfold peelB; rw [hpeel, hyes, HREST.out]; rfl
  rw [hpb] at h1
  exact h1
theorem build1Sg (w : World) (A : Option Addr) (n c : Nat) : (Instr.buildSlice 142 1 #[(0, .slice A n c)]).run Tryz.prog w = .ok (.slice (some ⟨w.heap.size, 0, none⟩) 1 1) (w.alloc (.cells #[.slice A n c] 60)) := by kernel_rfl
theorem mask_len (key tag b : List UInt8) : (mask key tag b).length = b.length := by
 unfold mask
 rw [xorL_len (by rw [Hm.expand_len]; exact Nat.le_refl _)]
theorem peel_any (key s : List UInt8) (hk : key.length = 32) (w : World) :
  Calls Tryz.prog 12 #[.agg (hC key), .string ⟨s.toArray⟩] w fun e w' => e = .returned (.tuple #[.agg (hopC (peel key s).1), .string ⟨(peel key s).2.1.toArray⟩, .int .i64 (peel key s).2.2]) /\ Below w.heap.size w w' := by
 have hsz : (⟨s.toArray⟩ : ByteArray).size = s.length := rfl
 by_cases hsh : 32 <= s.length /\ s.length <= 512
 case neg =>
  have hp : peel key s = (noHop, [], 350) := by unfold peel; rw [if_neg hsh]
  rw [hp]
  exact peel_short key hk ⟨s.toArray⟩ (by rw [hsz]; omega) w
 refine Calls.post fun Φ HΦ => ?_
 have hpl : peel key s = if Hm.tag key (mask key (s.take 32) (s.drop 32)) == s.take 32 then peelB key (mask key (s.take 32) (s.drop 32)) else (noHop, [], 350) := by unfold peel; rw [if_pos hsh]
 obtain ⟨tag, htag⟩ : ∃ t, s.take 32 = t := ⟨_, rfl⟩
 obtain ⟨c, hc⟩ : ∃ t, s.drop 32 = t := ⟨_, rfl⟩
 have htl : tag.length = 32 := by rw [<- htag, List.length_take]; omega
 have hcl : c.length <= 512 := by rw [<- hc, List.length_drop]; omega
 have hin := fun W => rin_int (s.length : Int) 32 512 W
 rw [show (decide ((32 : Int) <= (s.length : Int)) && decide ((s.length : Int) <= 512)) = true by rw [decide_eq_true (by omega), decide_eq_true (by omega)]; rfl] at hin
 have hsl1 := fun W => run_str_to s 32 (by omega) (by omega) W
 have hsl2 := fun W => run_str_from s 32 (by omega) (by omega) W
 have hext := ba_take s 32
 rw [htag] at hpl hsl1 hext
 rw [hc] at hpl hsl2
 obtain ⟨b, hb0⟩ : ∃ b, mask key tag c = b := ⟨_, rfl⟩
 obtain ⟨n, hn⟩ : ∃ n, c.length = n := ⟨_, rfl⟩
 have hbl : b.length = n := by rw [<- hb0, mask_len, hn]
 rw [hb0] at hpl
 rw [hn] at hcl
 have HN := Lib.hid hn
 have HBL := Lib.hid hbl
 have HB0 := Lib.hid hb0
 have HPL := Lib.hid hpl
 clear hpl htag hc hn hbl hb0
 have hmf : ∀ (fn : Fn) (first cap : Array Value) (w : World), (Instr.makeFunc fn first cap).run Tryz.prog w = .ok (.func fn first cap) w := fun _ _ _ _ => rfl
 have k2 := (((Row.new w 25 (hC key)).alloc (.cells (hopC noHop) 27)).alloc (.cells #[.string ⟨#[]⟩] 9)).alloc (.cells #[.int .i64 0] 28)
 have k4 := ((Row.new (w.alloc (.cells (hC key) 25)) 27 (hopC noHop)).alloc (.cells #[.string ⟨#[]⟩] 9)).alloc (.cells #[.int .i64 0] 28)
 have k5 := (Row.new ((w.alloc (.cells (hC key) 25)).alloc (.cells (hopC noHop) 27)) 9 #[.string ⟨#[]⟩]).alloc (.cells #[.int .i64 0] 28)
 have k6 := Row.new (((w.alloc (.cells (hC key) 25)).alloc (.cells (hopC noHop) 27)).alloc (.cells #[.string ⟨#[]⟩] 9)) 28 #[.int .i64 0]
 have hb : Below w.heap.size w ((((w.alloc (.cells (hC key) 25)).alloc (.cells (hopC noHop) 27)).alloc (.cells #[.string ⟨#[]⟩] 9)).alloc (.cells #[.int .i64 0] 28)) :=
  ((((Below.refl w.heap.size w).alloc (Nat.le_refl _) _).alloc (by simp) _).alloc (by simp; omega) _).alloc (by simp; omega) _
 have hs4 : ((((w.alloc (.cells (hC key) 25)).alloc (.cells (hopC noHop) 27)).alloc (.cells #[.string ⟨#[]⟩] 9)).alloc (.cells #[.int .i64 0] 28)).heap.size = w.heap.size + 4 := by simp
 have hbx := boxH key hk w
 simp only [World.size_alloc] at k4 k5 k6
 go_enter_defers Tryz.func12, Tryz.ntmps12
 go_upto_region 1 with (first
  | (guard_target =~ wpList _ _ _ (_ :: _) _ _; refine wpList_box rfl 25 (.tmp 0) rfl (.agg (hC key)) rfl hbx ?_)
  | (with_reducible refine wpList_alloc rfl 27 rfl (allocHop _) ?_)
  | fail)
 try simp only [World.size_alloc]
 generalize (((w.alloc (.cells (hC key) 25)).alloc (.cells (hopC noHop) 27)).alloc (.cells #[.string ⟨#[]⟩] 9)).alloc (.cells #[.int .i64 0] 28) = w1 at *
 clear hbx
 obtain ⟨g2, hg2⟩ : ∃ g, g = w.heap.size := ⟨_, rfl⟩
 obtain ⟨q, hq0⟩ : ∃ g, g = w.heap.size + 1 := ⟨_, rfl⟩
 obtain ⟨q5, hq50⟩ : ∃ g, g = w.heap.size + 1 + 1 := ⟨_, rfl⟩
 obtain ⟨q6, hq60⟩ : ∃ g, g = w.heap.size + 1 + 1 + 1 := ⟨_, rfl⟩
 rw [<- hq60] at k6 ⊢
 rw [<- hq50] at k5 ⊢
 rw [<- hq0] at k4 ⊢
 rw [<- hg2] at k2 ⊢
 have HZ : Hid (g2 = w.heap.size /\ q = w.heap.size + 1 /\ q5 = w.heap.size + 2 /\ q6 = w.heap.size + 3 /\ w1.heap.size = w.heap.size + 4) := Lib.hid ⟨hg2, hq0, by omega, by omega, hs4⟩
 clear hg2 hq0 hq50 hq60 hs4
 obtain ⟨W2, cap, hcv, hrd2, hcap, hcapm, hL2⟩ := conv_rd w1 tag (by omega)
 rw [htl] at hcv
 have hldT := loadHashM htl (rd_range hrd2 htl)
 obtain ⟨w3, hst3, k7, hg3⟩ := storeHz (a := []) (x := tag) (by simp) (by omega) (Row.new W2 25 (hC []))
 have hL3 : Later w1 w3 := hL2.step (((Later.refl W2).alloc (.cells (hC []) 25)).grown hg3 (by simp) (fun j e => by cases e; exact Nat.le_refl _))
 clear hg3 hrd2
 go_upto_region 4 with (first
  | (go_at_call 24; refine (hin _).mono ?_; rintro e w5 ⟨rfl, rfl⟩)
  | (go_at_call 32; refine (rmust_ok _ _).mono ?_; rintro e w5 ⟨rfl, rfl⟩)
  | (guard_target =~ wpList _ _ _ (_ :: _) _ _; refine wpList_conv rfl 9 60 (.tmp 16) rfl (.string ⟨tag.toArray⟩) rfl hcv ?_)
  | (guard_target =~ wpList _ _ _ (_ :: _) _ _; refine wpList_arr rfl 25 (.tmp 17) rfl (.slice (some ⟨_, 0, none⟩) 32 cap) rfl (run_arr32 _) ?_)
  | (guard_target =~ wpList _ _ _ (_ :: _) _ _; refine wpList_load rfl 25 (.tmp 18) rfl (.pointer (some ⟨_, 0, none⟩)) rfl hldT ?_)
  | (with_reducible refine wpList_alloc rfl 25 rfl (allocH _) ?_)
  | (guard_target =~ wpList _ _ _ (_ :: _) _ _; refine wpList_store rfl 25 (.tmp 7) (.tmp 19) rfl (.pointer (some ⟨W2.heap.size, 0, none⟩)) (.agg (hC tag)) rfl rfl hst3 ?_)
  | fail)
 obtain ⟨q7, hq7⟩ : ∃ g, g = W2.heap.size := ⟨_, rfl⟩
 rw [<- hq7] at k7 ⊢
 have k23 := k2.later hL3
 have k43 := k4.later hL3
 have k53 := k5.later hL3
 have k63 := k6.later hL3
 have hb3 := hb.trans (hL3.below.mono hb.size)
 have hs3 := hL3.size
 have H7 : Hid (w.heap.size + 4 <= q7 /\ q7 < w3.heap.size) := Lib.hid ⟨by have := HZ.out.2.2.2.2; have := hL2.size; omega, k7.lt⟩
 have HN3 := HN.out
 clear k2 k4 k5 k6 hb hL3 hs3 hL2 hst3 hcv hldT hext hsl1 hq7 hcap hcapm
 refine wp_region_list [Pr.eq (.agg (hC key)), Pr.eq (.agg (hC tag)), Pr.eq (.string ⟨s.toArray⟩), Pr.eq (.string ⟨c.toArray⟩), Pr.slM n c, Pr.slM n b, Pr.slM n b] (by kernel_rfl) (by kernel_rfl) (by kernel_rfl) (by kernel_rfl) ⟨?_, ?_, ?_, ?_, ?_, ?_, ?_, trivial⟩ ?_
 ·exact fun ac W hL he => stepOk_want rfl (op_load rfl (he.k 2) (loadH hk (k23.later hL)) rfl)
 ·exact fun ac W hL he => stepOk_want rfl (op_load rfl (he.k 7) (loadH htl (k7.later hL)) rfl)
 ·exact fun ac W hL he => stepOk_want rfl (op_move rfl (he.k 1))
 ·exact fun ac W hL he => stepOk_want rfl (op_slice (W' := W) rfl (he.g 2 22) (congrArg some rfl) (rfl : _ = none) rfl (hsl2 W) rfl)
 ·intro ac W hL he; refine stepOk_want rfl ?_; have e0 : ac.eval (.tmp 23) = .string ⟨c.toArray⟩ := he.g 3 23; obtain ⟨W2, cap, h1, h2, h3, h4, h5⟩ := conv_rd W c (by omega); rw [HN3] at h1 h3; exact op_conv rfl e0 h1 h5 ⟨_, cap, rfl, h3, h4, h2⟩
 ·intro ac W hL he; refine stepOk_want rfl ?_; have e0 : ac.eval (.tmp 20) = .agg (hC key) := he.g 0 20; have e1 : ac.eval (.tmp 21) = .agg (hC tag) := he.g 1 21; obtain ⟨S, cS, e2, h1, h2, h3⟩ : (Pr.slM n c).R (ac.eval (.tmp 24)) W := he.g 4 24; exact op_callF (vs := #[.agg (hC key), .agg (hC tag), .slice S n cS]) rfl (by simp only [List.map_toArray, List.map_cons, List.map_nil, e0, e1, e2]) (enters_of Tryz.func33 (by kernel_rfl) rfl) ((masked_any key tag S n cS c W hk htl HN3 (by omega) h3).mono fun e W' ⟨v, he', ho, hb⟩ => ⟨_, he', hb, by obtain ⟨S', c', e5, h5, h6, h7⟩ := ho.slice; rw [HB0.out, HBL.out] at e5 h5; rw [HB0.out] at h7; exact ⟨S', c', e5, h5, Nat.le_trans h6 (by decide), h7⟩⟩)
 ·exact fun ac W hL he => stepOk_want rfl (op_assign rfl (he.g 5 25))
 intro xs W hL hx
 obtain ⟨S, cS, v6, hSc, hScm, hRS⟩ : (Pr.slM n b).R (xs 6) W := hx 6 (by decide)
 simp only [putL, Nat.reduceAdd, Act.put, List.setIfInBounds_toArray, List.set_cons_succ, List.set_cons_zero]
 rw [v6]
 have k24 := k23.later hL
 have k44 := k43.later hL
 have k54 := k53.later hL
 have k64 := k63.later hL
 have k74 := k7.later hL
 have hb4 := hb3.trans (hL.below.mono hb3.size)
 have H4 : Hid (w.heap.size + 4 <= W.heap.size /\ q7 < W.heap.size) := Lib.hid ⟨by have := H7.out; have := hL.size; omega, by have := H7.out; have := hL.size; omega⟩
 clear hx v6 k23 k43 k53 k63 k7 hb3 hL hsl2
 obtain ⟨rb, hrb⟩ : ∃ x, (Hm.tag key b == tag) = x := ⟨_, rfl⟩
 have hfin := HPL.out
 rw [hrb] at hfin
 have HFIN := Lib.hid hfin
 have hrdk := rd_hash hk k24
 have hzz := HZ.out
 have hright : ∀ W', Later W W' -> ∀ g, RdsC W' (some ⟨g, 0, none⟩) [b] -> Calls Tryz.prog 34 #[.slice (some ⟨g2, 0, none⟩) 32 32, .agg (hC tag), .slice (some ⟨g, 0, none⟩) 1 1] W' fun e w' => e = .returned (.bool rb) /\ Below W'.heap.size W' w' := fun W' hL g hr => by
  have h1 := hm_right_any (some ⟨g2, 0, none⟩) 32 32 key tag (some ⟨g, 0, none⟩) 1 1 [b] W' hk (by decide) (by decide) (by decide) (hrdk.later hL) htl rfl (by decide) (by simp; have := HBL.out; omega) hr
  rw [show [b].flatten = b by simp, hrb] at h1
  exact h1
 clear hfin hrb
 go_upto_region 5 with fail
 rename_i K hK
 have HK := Lib.hid hK
 clear hK
 refine (wpIn_wide (n := 0)).1 ?_
 refine wpIn_region_last wide_wide [Pr.eq (.slice (some ⟨g2, 0, none⟩) 32 32), Pr.eq (.agg (hC tag)), Pr.eq (.slice S n cS), Pr.rowsC 1 [b], Pr.eq (.bool rb)] (by kernel_rfl) (by kernel_rfl) (by kernel_rfl) (by kernel_rfl) (by kernel_rfl) (by kernel_rfl) rfl ⟨?_, ?_, ?_, ?_, ?_, trivial⟩ ?_
 ·exact fun ac W hL he => stepOk_want rfl (op_slice (W' := W) rfl (he.k 2) (rfl : _ = none) (rfl : _ = none) rfl (sliceHash _) rfl)
 ·exact fun ac W hL he => stepOk_want rfl (op_load rfl (he.k 7) (loadH htl (k74.later hL)) rfl)
 ·exact fun ac W hL he => stepOk_want rfl (op_move rfl (he.k 8))
 ·intro ac W hL he; refine stepOk_want rfl ?_; have e0 : ac.eval (.tmp 28) = .slice S n cS := he.g 2 28; exact op_buildSlice (vs := #[(0, .slice S n cS)]) rfl (by simp only [List.map_toArray, List.map_cons, List.map_nil, e0]) (build1Sg W S n cS) (below_new W _) ⟨_, rfl, RdsC.one 60 rfl (hRS.later hL) HBL.out hSc hScm⟩
 ·intro ac W hL he; refine stepOk_want rfl ?_; have e0 : ac.eval (.tmp 26) = .slice (some ⟨g2, 0, none⟩) 32 32 := he.g 0 26; have e1 : ac.eval (.tmp 27) = .agg (hC tag) := he.g 1 27; obtain ⟨gR, e2, hRR⟩ : (Pr.rowsC 1 [b]).R (ac.eval (.tmp 29)) W := he.g 3 29; exact op_callF (vs := #[.slice (some ⟨g2, 0, none⟩) 32 32, .agg (hC tag), .slice (some ⟨gR, 0, none⟩) 1 1]) rfl (by simp only [List.map_toArray, List.map_cons, List.map_nil, e0, e1, e2]) (enters_of Tryz.func34 (by kernel_rfl) rfl) ((hright W hL gR hRR).mono fun e W' ⟨he', hb⟩ => ⟨_, he', hb, rfl⟩)
 intro xs5 W5 hL5 hx5 hk5 hgt5
 have v4 : xs5 4 = .bool rb := hx5 4 (by decide)
 have e30 := (hgt5 4 30 (by decide) (by kernel_rfl)).trans v4
 have k45 := k44.later hL5
 have k55 := k54.later hL5
 have k65 := k64.later hL5
 have hb5 := hb4.trans (hL5.below.mono hb4.size)
 cases rb with
 | false =>
  refine ⟨op_callFP (vs := #[.bool false, .int .i64 350]) rfl (by simp only [List.map_toArray, List.map_cons, List.map_nil, e30]; rfl) (enters_of Tryz.func32 (by kernel_rfl) rfl) ((rmust_no 350 W5).mono ?_)⟩
  rintro e W6 ⟨rfl, rfl⟩
  refine .inr ⟨_, rfl, ?_⟩
  exact peel_fail q q5 q6 noHop noHop_wf _ 0 w _ Φ _ (putL_defers _ _ _ _) (hk5 (.tmp 4) (by kernel_rfl)) (hk5 (.tmp 5) (by kernel_rfl)) (hk5 (.tmp 6) (by kernel_rfl)) k45 k55 k65 hb5 (by omega) (by omega) (by omega) (fun w' hb => HΦ.out _ _ ⟨by rw [HFIN.out]; rfl, hb⟩)
 | true =>
  refine ⟨op_callFK (vs := #[.bool true, .int .i64 350]) rfl (by simp only [List.map_toArray, List.map_cons, List.map_nil, e30]; rfl) (enters_of Tryz.func32 (by kernel_rfl) rfl) ((rmust_ok 350 W5).mono ?_)⟩
  rintro e W6 ⟨rfl, rfl⟩
  refine ⟨_, rfl, ?_⟩
  simp only [initL, lastL, putL, Nat.reduceAdd, Act.put, List.setIfInBounds_toArray, List.set_cons_succ, List.set_cons_zero]
  have k25 := k24.later hL5
  have hRS5 := hRS.later hL5
  have hs5 := hL5.size
  have HS5 : Hid (w.heap.size + 4 <= W6.heap.size) := Lib.hid (by have := H4.out; omega)
  clear hx5 v4 e30 hk5 hgt5 k24 k44 k54 k64 k74 hb4 hL5 hRS hright hrdk hs5
  refine HK.out _ _ ?_
  exact peel_tail _ (by kernel_rfl) w W6 key b hk g2 q q5 q6 n cS S ⟨by omega, by omega, by omega, by omega⟩ HS5.out HBL.out (by omega) hSc hRS5 k25 k45 k55 k65 hb5 Φ (fun w' hb => HΦ.out _ _ ⟨by rw [HFIN.out]; rfl, hb⟩) _ _ _ _ _ _ _ _ _ _ _ _ _ _ _ _ _ _ _ _ _ _ _ _ _ _ _ _ _ _ _ _ _ _ _ _ _ _ _ _ _ _ _ _ _ _ _ _ _ _ _ _ _ _ _ _ _ _ _ _ _ _ _ _ _ _ _ _ _ _
theorem boxHopA {h : Hop} (hw : h.wf) (w : World) : (Instr.box 27 (.agg (hopC h))).run Tryz.prog w = .ok (.pointer (some ⟨w.heap.size, 0, none⟩)) (w.alloc (.cells (hopC h) 27)) :=
 run_box_row w _ _ (by rw [hopC_size hw]; exact infoHop)
theorem refhop_any (h : Hop) (hw : h.wf) (w : World) : Calls Tryz.prog 28 #[.agg (hopC h)] w fun e w' => e = .returned (.bool (paid h.amt h.exp)) /\ Later w w' := by
 refine Calls.post fun Φ HΦ => ?_
 have hbx := boxHopA hw w
 have hr := Row.new w 27 (hopC h)
 have hL : Later w (w.alloc (.cells (hopC h) 27)) := below_new w _
 have hc2 := cHop2 hw hr
 have hc3 := cHop3 hw hr
 have h2 := fun W => right5_any h.amt W
 obtain ⟨b1, hb1⟩ : ∃ b, decide (0 < h.amt) = b := ⟨_, rfl⟩
 obtain ⟨b2, hb2⟩ : ∃ b, (!bad maxAmt h.amt) = b := ⟨_, rfl⟩
 obtain ⟨b3, hb3⟩ : ∃ b, decide (1 <= h.exp) = b := ⟨_, rfl⟩
 obtain ⟨b4, hb4⟩ : ∃ b, decide (h.exp <= 2147483647) = b := ⟨_, rfl⟩
 have hk : paid h.amt h.exp = (b1 && (b2 && (b3 && b4))) := by
  unfold paid
  rw [<- hb1, <- hb2, <- hb3, <- hb4]
  unfold bad maxAmt
  rw [Bool.eq_iff_iff]
  simp only [Bool.and_eq_true, decide_eq_true_eq, Bool.not_eq_true', Bool.or_eq_false_iff, decide_eq_false_iff_not]
  omega
 simp only [hb2] at h2
 have HK := Lib.hid hk
 have HL := Lib.hid hL
 clear hk hb2
 go_enter Tryz.func28, Tryz.ntmps28
 go_upto_region 1 with (first
  | (guard_target =~ wpList _ _ _ (_ :: _) _ _; refine wpList_box rfl 27 (.tmp 0) rfl (.agg (hopC h)) rfl hbx ?_)
  | fail)
 obtain ⟨g, hg⟩ : ∃ g, g = w.heap.size := ⟨_, rfl⟩
 rw [<- hg] at hc2 hc3 ⊢
 by_cases hc1 : b1 = false
 ·subst hc1
  refine wp_region_seqL [Pr.eq (.pointer (some ⟨g, 64, none⟩)), Pr.eq (.int .i64 h.amt), Pr.eq (.bool false), Pr.eq (.bool false), Pr.eq (undef), Pr.eq (undef), Pr.eq (undef), Pr.eq (.bool false), Pr.eq (.bool false), Pr.eq (undef), Pr.eq (undef), Pr.eq (undef), Pr.eq (.bool false), Pr.eq (.bool false), Pr.eq (undef), Pr.eq (undef), Pr.eq (undef), Pr.eq (.bool false), Pr.eq (.bool false)] (by kernel_rfl) (by kernel_rfl) (by kernel_rfl) ⟨?_, ?_, ?_, ?_, ?_, ?_, ?_, ?_, ?_, ?_, ?_, ?_, ?_, ?_, ?_, ?_, ?_, ?_, ?_, trivial⟩ ?_
  ·exact fun ac W hL he => stepOk_want rfl (op_fieldAddr rfl (he.k 1) fHop2 rfl)
  ·exact fun ac W hL he => stepOk_want rfl (op_load rfl (he.g 0 3) (ldI64 (Later.cell hL hc2)) rfl)
  ·exact fun ac W hL he => stepOk_want rfl (op_binOp rfl (he.g 1 4) rfl (eqg_any rfl) (cmpG hb1) rfl)
  ·exact fun ac W hL he => stepOk_want rfl (op_move rfl (he.g 2 5))
  iterate 3 (exact fun ac W hL he => stepOk_no rfl rfl (he.g 3 6) (by decide) rfl)
  ·exact fun ac W hL he => stepOk_want rfl (op_pick (b := false) rfl (he.g 3 6) rfl)
  ·exact fun ac W hL he => stepOk_want rfl (op_move rfl (he.g 7 10))
  iterate 3 (exact fun ac W hL he => stepOk_no rfl rfl (he.g 8 11) (by decide) rfl)
  ·exact fun ac W hL he => stepOk_want rfl (op_pick (b := false) rfl (he.g 8 11) rfl)
  ·exact fun ac W hL he => stepOk_want rfl (op_move rfl (he.g 12 15))
  iterate 3 (exact fun ac W hL he => stepOk_no rfl rfl (he.g 13 16) (by decide) rfl)
  ·exact fun ac W hL he => stepOk_want rfl (op_pick (b := false) rfl (he.g 13 16) rfl)
  ·exact fun ac W hL he => stepOk_want rfl (op_assign rfl (he.g 17 20))
  intro xs W hL2 hx
  have v18 : xs 18 = .bool false := hx 18 (by decide)
  simp only [putL, Nat.reduceAdd, Act.put, List.setIfInBounds_toArray, List.set_cons_succ, List.set_cons_zero]
  rw [v18]
  clear hx v18
  go_wp2_with fail
  exact HΦ.out _ _ ⟨by rw [HK.out]; simp, HL.out.step hL2⟩
 have hc1' : b1 = true := by revert hc1; cases b1 <;> simp
 clear hc1
 subst hc1'
 by_cases hc2 : b2 = false
 ·subst hc2
  refine wp_region_seqL [Pr.eq (.pointer (some ⟨g, 64, none⟩)), Pr.eq (.int .i64 h.amt), Pr.eq (.bool true), Pr.eq (.bool true), Pr.eq (.pointer (some ⟨g, 64, none⟩)), Pr.eq (.int .i64 h.amt), Pr.eq (.bool false), Pr.eq (.bool false), Pr.eq (.bool false), Pr.eq (undef), Pr.eq (undef), Pr.eq (undef), Pr.eq (.bool false), Pr.eq (.bool false), Pr.eq (undef), Pr.eq (undef), Pr.eq (undef), Pr.eq (.bool false), Pr.eq (.bool false)] (by kernel_rfl) (by kernel_rfl) (by kernel_rfl) ⟨?_, ?_, ?_, ?_, ?_, ?_, ?_, ?_, ?_, ?_, ?_, ?_, ?_, ?_, ?_, ?_, ?_, ?_, ?_, trivial⟩ ?_
  ·exact fun ac W hL he => stepOk_want rfl (op_fieldAddr rfl (he.k 1) fHop2 rfl)
  ·exact fun ac W hL he => stepOk_want rfl (op_load rfl (he.g 0 3) (ldI64 (Later.cell hL hc2)) rfl)
  ·exact fun ac W hL he => stepOk_want rfl (op_binOp rfl (he.g 1 4) rfl (eqg_any rfl) (cmpG hb1) rfl)
  ·exact fun ac W hL he => stepOk_want rfl (op_move rfl (he.g 2 5))
  ·exact fun ac W hL he => stepOk_yes (j := 3) (t := 6) (b := true) rfl rfl (he.g 3 6) (op_fieldAddr rfl (he.k 1) fHop2 rfl)
  ·exact fun ac W hL he => stepOk_yes (j := 3) (t := 6) (b := true) rfl rfl (he.g 3 6) (op_load rfl (he.g 4 7) (ldI64 (Later.cell hL hc2)) rfl)
  ·intro ac W hL he; refine stepOk_yes (j := 3) (t := 6) (b := true) rfl rfl (he.g 3 6) ?_; have e0 : ac.eval (.tmp 8) = .int .i64 h.amt := (he.g 5 8); exact op_callF (vs := #[.int .i64 h.amt]) rfl (by simp only [List.map_toArray, List.map_cons, List.map_nil, e0]) (enters_of Tryz.func50 (by kernel_rfl) rfl) (((h2 W)).mono fun e W' ⟨he', hw'⟩ => ⟨_, he', hw' ▸ Later.refl _, rfl⟩)
  ·exact fun ac W hL he => stepOk_want rfl (op_pick (b := true) rfl (he.g 3 6) (he.g 6 9))
  ·exact fun ac W hL he => stepOk_want rfl (op_move rfl (he.g 7 10))
  iterate 3 (exact fun ac W hL he => stepOk_no rfl rfl (he.g 8 11) (by decide) rfl)
  ·exact fun ac W hL he => stepOk_want rfl (op_pick (b := false) rfl (he.g 8 11) rfl)
  ·exact fun ac W hL he => stepOk_want rfl (op_move rfl (he.g 12 15))
  iterate 3 (exact fun ac W hL he => stepOk_no rfl rfl (he.g 13 16) (by decide) rfl)
  ·exact fun ac W hL he => stepOk_want rfl (op_pick (b := false) rfl (he.g 13 16) rfl)
  ·exact fun ac W hL he => stepOk_want rfl (op_assign rfl (he.g 17 20))
  intro xs W hL2 hx
  have v18 : xs 18 = .bool false := hx 18 (by decide)
  simp only [putL, Nat.reduceAdd, Act.put, List.setIfInBounds_toArray, List.set_cons_succ, List.set_cons_zero]
  rw [v18]
  clear hx v18
  go_wp2_with fail
  exact HΦ.out _ _ ⟨by rw [HK.out]; simp, HL.out.step hL2⟩
 have hc2' : b2 = true := by revert hc2; cases b2 <;> simp
 clear hc2
 subst hc2'
 by_cases hc3 : b3 = false
 ·subst hc3
  refine wp_region_seqL [Pr.eq (.pointer (some ⟨g, 64, none⟩)), Pr.eq (.int .i64 h.amt), Pr.eq (.bool true), Pr.eq (.bool true), Pr.eq (.pointer (some ⟨g, 64, none⟩)), Pr.eq (.int .i64 h.amt), Pr.eq (.bool true), Pr.eq (.bool true), Pr.eq (.bool true), Pr.eq (.pointer (some ⟨g, 65, none⟩)), Pr.eq (.int .i64 h.exp), Pr.eq (.bool false), Pr.eq (.bool false), Pr.eq (.bool false), Pr.eq (undef), Pr.eq (undef), Pr.eq (undef), Pr.eq (.bool false), Pr.eq (.bool false)] (by kernel_rfl) (by kernel_rfl) (by kernel_rfl) ⟨?_, ?_, ?_, ?_, ?_, ?_, ?_, ?_, ?_, ?_, ?_, ?_, ?_, ?_, ?_, ?_, ?_, ?_, ?_, trivial⟩ ?_
  ·exact fun ac W hL he => stepOk_want rfl (op_fieldAddr rfl (he.k 1) fHop2 rfl)
  ·exact fun ac W hL he => stepOk_want rfl (op_load rfl (he.g 0 3) (ldI64 (Later.cell hL hc2)) rfl)
  ·exact fun ac W hL he => stepOk_want rfl (op_binOp rfl (he.g 1 4) rfl (eqg_any rfl) (cmpG hb1) rfl)
  ·exact fun ac W hL he => stepOk_want rfl (op_move rfl (he.g 2 5))
  ·exact fun ac W hL he => stepOk_yes (j := 3) (t := 6) (b := true) rfl rfl (he.g 3 6) (op_fieldAddr rfl (he.k 1) fHop2 rfl)
  ·exact fun ac W hL he => stepOk_yes (j := 3) (t := 6) (b := true) rfl rfl (he.g 3 6) (op_load rfl (he.g 4 7) (ldI64 (Later.cell hL hc2)) rfl)
  ·intro ac W hL he; refine stepOk_yes (j := 3) (t := 6) (b := true) rfl rfl (he.g 3 6) ?_; have e0 : ac.eval (.tmp 8) = .int .i64 h.amt := (he.g 5 8); exact op_callF (vs := #[.int .i64 h.amt]) rfl (by simp only [List.map_toArray, List.map_cons, List.map_nil, e0]) (enters_of Tryz.func50 (by kernel_rfl) rfl) (((h2 W)).mono fun e W' ⟨he', hw'⟩ => ⟨_, he', hw' ▸ Later.refl _, rfl⟩)
  ·exact fun ac W hL he => stepOk_want rfl (op_pick (b := true) rfl (he.g 3 6) (he.g 6 9))
  ·exact fun ac W hL he => stepOk_want rfl (op_move rfl (he.g 7 10))
  ·exact fun ac W hL he => stepOk_yes (j := 8) (t := 11) (b := true) rfl rfl (he.g 8 11) (op_fieldAddr rfl (he.k 1) fHop3 rfl)
  ·exact fun ac W hL he => stepOk_yes (j := 8) (t := 11) (b := true) rfl rfl (he.g 8 11) (op_load rfl (he.g 9 12) (ldI64 (Later.cell hL hc3)) rfl)
  ·exact fun ac W hL he => stepOk_yes (j := 8) (t := 11) (b := true) rfl rfl (he.g 8 11) (op_binOp rfl (he.g 10 13) rfl (eqg_any rfl) (cmpGe hb3) rfl)
  ·exact fun ac W hL he => stepOk_want rfl (op_pick (b := true) rfl (he.g 8 11) (he.g 11 14))
  ·exact fun ac W hL he => stepOk_want rfl (op_move rfl (he.g 12 15))
  iterate 3 (exact fun ac W hL he => stepOk_no rfl rfl (he.g 13 16) (by decide) rfl)
  ·exact fun ac W hL he => stepOk_want rfl (op_pick (b := false) rfl (he.g 13 16) rfl)
  ·exact fun ac W hL he => stepOk_want rfl (op_assign rfl (he.g 17 20))
  intro xs W hL2 hx
  have v18 : xs 18 = .bool false := hx 18 (by decide)
  simp only [putL, Nat.reduceAdd, Act.put, List.setIfInBounds_toArray, List.set_cons_succ, List.set_cons_zero]
  rw [v18]
  clear hx v18
  go_wp2_with fail
  exact HΦ.out _ _ ⟨by rw [HK.out]; simp, HL.out.step hL2⟩
 have hc3' : b3 = true := by revert hc3; cases b3 <;> simp
 clear hc3
 subst hc3'
 refine wp_region_seqL [Pr.eq (.pointer (some ⟨g, 64, none⟩)), Pr.eq (.int .i64 h.amt), Pr.eq (.bool true), Pr.eq (.bool true), Pr.eq (.pointer (some ⟨g, 64, none⟩)), Pr.eq (.int .i64 h.amt), Pr.eq (.bool true), Pr.eq (.bool true), Pr.eq (.bool true), Pr.eq (.pointer (some ⟨g, 65, none⟩)), Pr.eq (.int .i64 h.exp), Pr.eq (.bool true), Pr.eq (.bool true), Pr.eq (.bool true), Pr.eq (.pointer (some ⟨g, 65, none⟩)), Pr.eq (.int .i64 h.exp), Pr.eq (.bool b4), Pr.eq (.bool b4), Pr.eq (.bool b4)] (by kernel_rfl) (by kernel_rfl) (by kernel_rfl) ⟨?_, ?_, ?_, ?_, ?_, ?_, ?_, ?_, ?_, ?_, ?_, ?_, ?_, ?_, ?_, ?_, ?_, ?_, ?_, trivial⟩ ?_
 ·exact fun ac W hL he => stepOk_want rfl (op_fieldAddr rfl (he.k 1) fHop2 rfl)
 ·exact fun ac W hL he => stepOk_want rfl (op_load rfl (he.g 0 3) (ldI64 (Later.cell hL hc2)) rfl)
 ·exact fun ac W hL he => stepOk_want rfl (op_binOp rfl (he.g 1 4) rfl (eqg_any rfl) (cmpG hb1) rfl)
 ·exact fun ac W hL he => stepOk_want rfl (op_move rfl (he.g 2 5))
 ·exact fun ac W hL he => stepOk_yes (j := 3) (t := 6) (b := true) rfl rfl (he.g 3 6) (op_fieldAddr rfl (he.k 1) fHop2 rfl)
 ·exact fun ac W hL he => stepOk_yes (j := 3) (t := 6) (b := true) rfl rfl (he.g 3 6) (op_load rfl (he.g 4 7) (ldI64 (Later.cell hL hc2)) rfl)
 ·intro ac W hL he; refine stepOk_yes (j := 3) (t := 6) (b := true) rfl rfl (he.g 3 6) ?_; have e0 : ac.eval (.tmp 8) = .int .i64 h.amt := (he.g 5 8); exact op_callF (vs := #[.int .i64 h.amt]) rfl (by simp only [List.map_toArray, List.map_cons, List.map_nil, e0]) (enters_of Tryz.func50 (by kernel_rfl) rfl) (((h2 W)).mono fun e W' ⟨he', hw'⟩ => ⟨_, he', hw' ▸ Later.refl _, rfl⟩)
 ·exact fun ac W hL he => stepOk_want rfl (op_pick (b := true) rfl (he.g 3 6) (he.g 6 9))
 ·exact fun ac W hL he => stepOk_want rfl (op_move rfl (he.g 7 10))
 ·exact fun ac W hL he => stepOk_yes (j := 8) (t := 11) (b := true) rfl rfl (he.g 8 11) (op_fieldAddr rfl (he.k 1) fHop3 rfl)
 ·exact fun ac W hL he => stepOk_yes (j := 8) (t := 11) (b := true) rfl rfl (he.g 8 11) (op_load rfl (he.g 9 12) (ldI64 (Later.cell hL hc3)) rfl)
 ·exact fun ac W hL he => stepOk_yes (j := 8) (t := 11) (b := true) rfl rfl (he.g 8 11) (op_binOp rfl (he.g 10 13) rfl (eqg_any rfl) (cmpGe hb3) rfl)
 ·exact fun ac W hL he => stepOk_want rfl (op_pick (b := true) rfl (he.g 8 11) (he.g 11 14))
 ·exact fun ac W hL he => stepOk_want rfl (op_move rfl (he.g 12 15))
 ·exact fun ac W hL he => stepOk_yes (j := 13) (t := 16) (b := true) rfl rfl (he.g 13 16) (op_fieldAddr rfl (he.k 1) fHop3 rfl)
 ·exact fun ac W hL he => stepOk_yes (j := 13) (t := 16) (b := true) rfl rfl (he.g 13 16) (op_load rfl (he.g 14 17) (ldI64 (Later.cell hL hc3)) rfl)
 ·exact fun ac W hL he => stepOk_yes (j := 13) (t := 16) (b := true) rfl rfl (he.g 13 16) (op_binOp rfl (he.g 15 18) rfl (eqg_any rfl) (cmpLe hb4) rfl)
 ·exact fun ac W hL he => stepOk_want rfl (op_pick (b := true) rfl (he.g 13 16) (he.g 16 19))
 ·exact fun ac W hL he => stepOk_want rfl (op_assign rfl (he.g 17 20))
 intro xs W hL2 hx
 have v18 : xs 18 = .bool b4 := hx 18 (by decide)
 simp only [putL, Nat.reduceAdd, Act.put, List.setIfInBounds_toArray, List.set_cons_succ, List.set_cons_zero]
 rw [v18]
 clear hx v18
 go_wp2_with fail
 exact HΦ.out _ _ ⟨by rw [HK.out]; simp, HL.out.step hL2⟩
theorem op_copy_str {P : Program} {w : World} {o : Oper} {a : Act} {K : Act -> World -> Prop} {Q : Exit -> Act -> World -> Prop} (d s : Operand) (dT sT : TypeId)
  (ho : o.op = .call { callee := .builtin .copy, args := #[d, s], argTypes := #[dT, sT] }) (elem : TypeId) (hu : P.underlying dT = some (.slice elem)) (hsz : (P.info? elem).map (·.size) = some 1)
  (g dCap : Nat) (l x : List UInt8) (hl : l.length = 32) (hx : x.length <= 32) (hd : a.eval d = .slice (some ⟨g, 0, none⟩) 32 dCap) (hs : a.eval s = .string ⟨l.toArray⟩) (t : TypeId) (hg : Row w g t (hC x))
  (h : ∀ w', Row w' g t (hC l) -> w.grownBy w' (some g) -> K (a.put o.dst (.int .i64 32)) w') : o.wp P a w K Q := by
 have hz : (⟨l.toArray⟩ : ByteArray).size = 32 := hl
 have hrun := Lib.run_copy_row_string (P := P) w dT sT o.type elem g 0 32 dCap ⟨l.toArray⟩ (hC x) t hu hsz hg (by rw [hz]; decide) (by rw [hz, hC_size x hx]; decide)
 have hcs : ((hC x).toList.take 0 ++ Lib.byteCells (⟨l.toArray⟩ : ByteArray).data.toList ++ (hC x).toList.drop (0 + (⟨l.toArray⟩ : ByteArray).size)).toArray = hC l := by
  rw [hz, List.take_zero, List.nil_append, List.drop_of_length_le (by rw [Array.length_toList, hC_size x hx]; decide), List.append_nil, hC_full l hl]
  rfl
 rw [hcs, hz] at hrun
 have hrun : (Builtin.copy_ #[dT, sT] o.type #[.slice (some ⟨g, 0, none⟩) 32 dCap, .string ⟨l.toArray⟩]).run P w = .ok (.int .i64 32) (w.setRow g (hC l)) := hrun
 unfold Oper.wp
 simp only [execOp, ho, resolve, invoke, builtin, hd, hs, hrun, Sem.run_bind, Sem.run_pure, Result.andThen_ok, List.map_toArray, List.map_cons, List.map_nil]
 exact h _ (setRow_heap w g _ _ t _ hg) ⟨rfl, rfl, rfl, by simp, fun k _ hne => setRow_other w g k _ (fun e => hne (by rw [e]))⟩
theorem bHop10 (f : Nat -> Value) (w : World) : (Instr.build 27 #[(0, .agg ((List.range 32).map f).toArray)]).run Tryz.prog w = .ok (.agg ((List.range 32).map f ++ (hC zh).toList ++ [Value.int .i64 0, Value.int .i64 0]).toArray) w := by kernel_rfl
theorem bHop1 {key : List UInt8} (hk : key.length = 32) (w : World) : (Instr.build 27 #[(0, .agg (hC key))]).run Tryz.prog w = .ok (.agg (hopC ⟨key, zh, 0, 0⟩)) w := by
 have h := arr_range (hC key) 32 (hC_size key (by omega))
 unfold hopC
 simp only
 rw [h]
 exact bHop10 _ w
section
variable {w W : World} {q9 q10 : Nat} {T9 : TypeId} {A0 : Option Addr} {b : List UInt8} {s : List UInt8 × Bool} {h : Hop}
theorem DR.text (d : DR w q9 q10 T9 A0 b s h W) (most : Int) (hr : (Wr.textR s.1 s.2 most).1.1.length <= 1000000) : ∃ v0, (Instr.loadAt 89 (.pointer (some ⟨q10, 0, none⟩))).run Tryz.prog W = .ok v0 W /\
  Calls Tryz.prog 43 #[v0, .int .i64 most] W fun e w2 => ∃ v, e = .returned (.tuple #[v, .string ⟨(Wr.textR s.1 s.2 most).2.1.toArray⟩, .int .i64 (Wr.textR s.1 s.2 most).2.2]) /\
   ∃ w3, (Instr.storeAt 89 (.pointer (some ⟨q10, 0, none⟩)) v).run Tryz.prog w2 = .ok () w3 /\ DR w q9 q10 T9 A0 b (Wr.textR s.1 s.2 most).1 h w3 := by
 obtain ⟨D, c, h1, h2, h3, h4⟩ := d.load
 refine ⟨_, h1, (refTextR_any D s.1.length c s.1 s.2 most W rfl h2 h3 (by have := d.len; omega) (h4 W d.rd)).mono ?_⟩
 rintro e w2 ⟨hL, v, rfl, D2, c2, hv, hc2, hcm2, hD2⟩
 obtain ⟨w3, e3, d3⟩ := (d.later hL).put10 (s' := (Wr.textR s.1 s.2 most).1) D2 c2 hv hc2 hcm2 (fun X hX => hD2 X (h4 X hX)) hr
 exact ⟨v, rfl, w3, e3, d3⟩
end
theorem textR_rest (l : List UInt8) (bad : Bool) (most : Int) : (Wr.textR l bad most).1.1.length <= l.length := by
 unfold Wr.textR Wr.textRest
 by_cases h : Wr.textOk l most = true <;> by_cases h2 : most < 0 <;> cases bad <;> simp [h, h2] <;> omega
theorem neqHashAny (a b : List UInt8) (ha : a.length = 32) (hb : b.length = 32) (w : World) : (binOp .neq 25 (.agg (hC a)) (.agg (hC b))).run Tryz.prog w = .ok (.bool (!(a == b))) w := by
 rw [run_neq_struct, eqHash 9998 a b ha hb]
 rfl
theorem neqBools (a b : Bool) (w : World) : (binOp .neq 4 (.bool a) (.bool b)).run Tryz.prog w = .ok (.bool (!(a == b))) w := by
 cases a <;> cases b <;> kernel_rfl
theorem fRf0 {g : Nat} {W : World} : (Instr.fieldAt 89 (.pointer (some ⟨g, 0, none⟩)) 0).run Tryz.prog W = .ok (.pointer (some ⟨g, 0, none⟩)) W := by go_simp
theorem fRf1 {g : Nat} {W : World} : (Instr.fieldAt 89 (.pointer (some ⟨g, 0, none⟩)) 1).run Tryz.prog W = .ok (.pointer (some ⟨g, 1, none⟩)) W := by go_simp
theorem ldBool {b o : Nat} {x : Bool} {W : World} (hc : W.cell? ⟨b, o, none⟩ = some (.bool x)) : (Instr.loadAt 4 (.pointer (some ⟨b, o, none⟩))).run Tryz.prog W = .ok (.bool x) W := by
 go_simp
theorem ldSl8 {b o n c : Nat} {A : Option Addr} {W : World} (hc : W.cell? ⟨b, o, none⟩ = some (.slice A n c)) : (Instr.loadAt 60 (.pointer (some ⟨b, o, none⟩))).run Tryz.prog W = .ok (.slice A n c) W := by
 go_simp
theorem eqgHashR (b : BinOp) (x y : Operand) (xs ys : Array Value) (w : World) : (eqGuard b 25 x y (.agg xs) (.agg ys)).run Tryz.prog w = .ok () w := run_eqGuard_agg w b _ x y xs ys (by kernel_rfl)
theorem gtr0 (n : Nat) (W : World) : (binOp .gtr 3 (.int .i64 (n : Int)) (.int .i64 0)).run Tryz.prog W = .ok (.bool (decide (0 < n))) W := by
 have h : (binOp .gtr 3 (.int .i64 (n : Int)) (.int .i64 0)).run Tryz.prog W = .ok (.bool (decide ((n : Int) > 0))) W := by kernel_rfl
 rw [h]
 congr 2
 exact decide_eq_decide.2 (by omega)
def Rt.res13 (bd : Bool) (rl : List UInt8) (tok : Bool) (h : Hop) (rest : List UInt8) : Hop × List UInt8 × Int := if !bd && (rl.isEmpty && (tok && fits h rest)) then (h, rest, 0) else (noHop, [], 350)
theorem refPeel_fin (cd : Code) (hcd : ((Tryz.prog.funcs[(13 : Nat)]?.bind (·.body)).bind (fromR 13)) = some cd) (w W : World) (key b rest tag : List UInt8) (hk : key.length = 32) (ht : tag.length = 32) (h : Hop) (hwf : h.wf) (g2 q q7 q9 q11 n cS c0 : Nat) (S D : Option Addr) (bd : Bool) (rl : List UInt8) (hn : b.length = n) (hnl : n <= 1000) (hSc : n <= cS) (hScm : cS <= 9223372036854775807) (hrd : Rd W S b)
  (k2 : Row W g2 25 (hC key)) (kq : Row W q 27 (hopC noHop)) (k7 : Row W q7 25 (hC tag)) (k9 : Row W q9 27 (hopC h)) (k11 : Row W q11 89 (rfV D rl.length c0 bd)) (hb : Below w.heap.size w W) (hqw : w.heap.size <= q)
  (Q : Exit -> Act -> World -> Prop) (hQ : ∀ (a' : Act) (W' : World), a'.defers = [] -> a'.tmps.getD 4 undef = .pointer (some ⟨q, 0, none⟩) -> a'.tmps.getD 5 undef = .string ⟨(res13 bd rl (Hm.tag key b == tag) h rest).2.1.toArray⟩ -> a'.tmps.getD 6 undef = .int .i64 (res13 bd rl (Hm.tag key b == tag) h rest).2.2 -> Row W' q 27 (hopC (res13 bd rl (Hm.tag key b == tag) h rest).1) -> Below w.heap.size w W' -> Q .ret a' W')
  (u0 u1 u3 u5 u6 u12 u13 u14 u15 u16 u17 u18 u19 u20 u21 u22 u23 u24 u25 u26 u27 u28 u29 u30 u31 u32 u33 u34 u35 u36 u37 u38 u39 u40 u41 u42 u43 u44 u45 u46 u47 u48 u49 u50 u51 u52 u53 u54 u55 u56 u57 u58 u59 u60 u61 u62 u63 u64 u65 u66 u67 u68 u69 u70 u71 u72 u73 u74 u75 u76 u77 u78 u79 u80 u81 u82 u83 u84 u85 u86 u87 u88 u89 u90 u91 u92 u93 : Value)
  (hN : res13 bd rl (Hm.tag key b == tag) h rest = (h, rest, 0) -> ∀ (v62 v63 v64 v65 v66 v67 v68 v69 v70 v71 v72 v73 v74 v75 v76 v77 v78 v79 v80 v81 v82 v83 v84 v85 v86 v87 v88 v89 v90 : Value) (W' : World), Later W W' -> Q .normal { tmps := #[u0, u1, .pointer (some ⟨g2, 0, none⟩), u3, .pointer (some ⟨q, 0, none⟩), u5, u6, .pointer (some ⟨q7, 0, none⟩), .slice S n cS, .pointer (some ⟨q9, 0, none⟩), .string ⟨rest.toArray⟩, .pointer (some ⟨q11, 0, none⟩), u12, u13, u14, u15, u16, u17, u18, u19, u20, u21, u22, u23, u24, u25, u26, u27, u28, u29, u30, u31, u32, u33, u34, u35, u36, u37, u38, u39, u40, u41, u42, u43, u44, u45, u46, u47, u48, u49, u50, u51, u52, u53, u54, u55, u56, u57, u58, u59, u60, u61, v62, v63, v64, v65, v66, v67, v68, v69, v70, v71, v72, v73, v74, v75, v76, v77, v78, v79, v80, v81, v82, v83, v84, v85, v86, v87, v88, v89, v90, u91, u92, u93], defers := [] } W') :
  cd.wp Tryz.prog Q { tmps := #[u0, u1, .pointer (some ⟨g2, 0, none⟩), u3, .pointer (some ⟨q, 0, none⟩), u5, u6, .pointer (some ⟨q7, 0, none⟩), .slice S n cS, .pointer (some ⟨q9, 0, none⟩), .string ⟨rest.toArray⟩, .pointer (some ⟨q11, 0, none⟩), u12, u13, u14, u15, u16, u17, u18, u19, u20, u21, u22, u23, u24, u25, u26, u27, u28, u29, u30, u31, u32, u33, u34, u35, u36, u37, u38, u39, u40, u41, u42, u43, u44, u45, u46, u47, u48, u49, u50, u51, u52, u53, u54, u55, u56, u57, u58, u59, u60, u61, u62, u63, u64, u65, u66, u67, u68, u69, u70, u71, u72, u73, u74, u75, u76, u77, u78, u79, u80, u81, u82, u83, u84, u85, u86, u87, u88, u89, u90, u91, u92, u93], defers := [] } W := by
 conv at hcd => lhs; whnf
 injection hcd with hcd
 subst hcd
 have ca := (k11.cell 0).trans (rfl : _ = some (Value.slice D rl.length c0))
 have cb := (k11.cell 1).trans (rfl : _ = some (Value.bool bd))
 obtain ⟨tok, hto⟩ : ∃ x, (Hm.tag key b == tag) = x := ⟨_, rfl⟩
 rw [hto] at hQ hN
 have hrdk := rd_hash hk k2
 have htg : ∀ W', Later W W' -> Calls Tryz.prog 44 #[.slice (some ⟨g2, 0, none⟩) 32 32, .slice S n cS] W' fun e w' => e = .returned (.agg (hC (Hm.tag key b))) /\ Below W'.heap.size W' w' := fun W' hL => refTag_any (some ⟨g2, 0, none⟩) 32 32 key S n cS b W' hk hn (by decide) (by omega) (by decide) (by decide) (hrdk.later hL) (hrd.later hL)
 have htl : (Hm.tag key b).length = 32 := Hm.tag_len key b
 have hst : ∀ X, Later W X -> ∃ X2, (Instr.storeAt 27 (.pointer (some ⟨q, 0, none⟩)) (.agg (hopC noHop))).run Tryz.prog X = .ok () X2 /\ Row X2 q 27 (hopC noHop) /\ Below w.heap.size w X2 := fun X hL => by
  obtain ⟨X2, h1, h2, h3⟩ := storeHop noHop_wf noHop_wf (kq.later hL)
  have hb2 := hb.trans (hL.below.mono hb.size)
  exact ⟨X2, h1, h2, hb2.grown h3 hb2.size (fun j e => by cases e; exact hqw)⟩
 have HST := Lib.hid hst
 clear hst
 go_upto_region 13 with fail
 cases bd with
 | true =>
  refine wp_region_list [Pr.eq (.pointer (some ⟨q11, 1, none⟩)), Pr.eq (.bool true), Pr.eq (.bool true), Pr.eq (undef), Pr.eq (undef), Pr.eq (undef), Pr.eq (undef), Pr.eq (.bool true), Pr.eq (.bool true), Pr.eq (undef), Pr.eq (undef), Pr.eq (undef), Pr.eq (undef), Pr.eq (undef), Pr.eq (.bool true), Pr.eq (.bool true), Pr.eq (undef), Pr.eq (undef), Pr.eq (undef), Pr.eq (.bool true), Pr.eq (.bool true), Pr.eq (undef), Pr.eq (undef), Pr.eq (undef), Pr.eq (undef), Pr.eq (undef), Pr.eq (undef), Pr.eq (undef), Pr.eq (.bool true)] (by kernel_rfl) (by kernel_rfl) (by kernel_rfl) (by kernel_rfl) ⟨?_, ?_, ?_, ?_, ?_, ?_, ?_, ?_, ?_, ?_, ?_, ?_, ?_, ?_, ?_, ?_, ?_, ?_, ?_, ?_, ?_, ?_, ?_, ?_, ?_, ?_, ?_, ?_, ?_, trivial⟩ ?_
  ·exact fun ac W hL he => stepOk_want rfl (op_fieldAddr rfl (he.k 11) fRf1 rfl)
  ·exact fun ac W hL he => stepOk_want rfl (op_load rfl (he.g 0 62) (ldBool (hL.cell cb)) rfl)
  ·exact fun ac W hL he => stepOk_want rfl (op_move rfl (he.g 1 63))
  iterate 4 (exact fun ac W hL he => stepOk_no rfl rfl (he.g 2 64) (by decide) rfl)
  ·exact fun ac W hL he => stepOk_want rfl (op_pick (b := true) rfl (he.g 2 64) rfl)
  ·exact fun ac W hL he => stepOk_want rfl (op_move rfl (he.g 7 69))
  iterate 5 (exact fun ac W hL he => stepOk_no rfl rfl (he.g 8 70) (by decide) rfl)
  ·exact fun ac W hL he => stepOk_want rfl (op_pick (b := true) rfl (he.g 8 70) rfl)
  ·exact fun ac W hL he => stepOk_want rfl (op_move rfl (he.g 14 76))
  iterate 3 (exact fun ac W hL he => stepOk_no rfl rfl (he.g 15 77) (by decide) rfl)
  ·exact fun ac W hL he => stepOk_want rfl (op_pick (b := true) rfl (he.g 15 77) rfl)
  ·exact fun ac W hL he => stepOk_want rfl (op_move rfl (he.g 19 81))
  iterate 7 (exact fun ac W hL he => stepOk_no rfl rfl (he.g 20 82) (by decide) rfl)
  ·exact fun ac W hL he => stepOk_want rfl (op_pick (b := true) rfl (he.g 20 82) rfl)
  intro xs W9 hL9 hx
  have v28 : xs 28 = .bool true := hx 28 (by decide)
  simp only [putL, Nat.reduceAdd, Act.put, List.setIfInBounds_toArray, List.set_cons_succ, List.set_cons_zero]
  rw [v28]
  obtain ⟨X2, hst, kst, hbst⟩ := HST.out W9 hL9
  clear hx v28 ca cb hrdk htg
  go_wp2_with (first
   | (guard_target =~ wpList _ _ _ (_ :: _) _ _; refine wpList_build rfl 27 _ rfl #[] (by simp only [List.map_toArray, List.map_nil]) (buildHop0 _) ?_)
   | (guard_target =~ wpList _ _ _ (_ :: _) _ _; refine wpList_store rfl 27 (.tmp 4) (.tmp 91) rfl (.pointer (some ⟨q, 0, none⟩)) (.agg (hopC noHop)) rfl rfl hst ?_)
   | fail)
  have hres : res13 true rl tok h rest = (noHop, [], 350) := by rfl
  rw [hres] at hQ
  exact hQ _ _ rfl rfl rfl rfl kst hbst
 | false =>
  obtain ⟨nr, hnr⟩ : ∃ x, rl.length = x := ⟨_, rfl⟩
  rw [hnr] at ca k11
  have hg0 := fun W => gtr0 nr W
  by_cases hl : 0 < nr
  ·rw [decide_eq_true hl] at hg0
   refine wp_region_list [Pr.eq (.pointer (some ⟨q11, 1, none⟩)), Pr.eq (.bool false), Pr.eq (.bool false), Pr.eq (.pointer (some ⟨q11, 0, none⟩)), Pr.eq (.slice D nr c0), Pr.eq (.int .i64 (nr : Int)), Pr.eq (.bool true), Pr.eq (.bool true), Pr.eq (.bool true), Pr.eq (undef), Pr.eq (undef), Pr.eq (undef), Pr.eq (undef), Pr.eq (undef), Pr.eq (.bool true), Pr.eq (.bool true), Pr.eq (undef), Pr.eq (undef), Pr.eq (undef), Pr.eq (.bool true), Pr.eq (.bool true), Pr.eq (undef), Pr.eq (undef), Pr.eq (undef), Pr.eq (undef), Pr.eq (undef), Pr.eq (undef), Pr.eq (undef), Pr.eq (.bool true)] (by kernel_rfl) (by kernel_rfl) (by kernel_rfl) (by kernel_rfl) ⟨?_, ?_, ?_, ?_, ?_, ?_, ?_, ?_, ?_, ?_, ?_, ?_, ?_, ?_, ?_, ?_, ?_, ?_, ?_, ?_, ?_, ?_, ?_, ?_, ?_, ?_, ?_, ?_, ?_, trivial⟩ ?_
   ·exact fun ac W hL he => stepOk_want rfl (op_fieldAddr rfl (he.k 11) fRf1 rfl)
   ·exact fun ac W hL he => stepOk_want rfl (op_load rfl (he.g 0 62) (ldBool (hL.cell cb)) rfl)
   ·exact fun ac W hL he => stepOk_want rfl (op_move rfl (he.g 1 63))
   ·exact fun ac W hL he => stepOk_yes (j := 2) (t := 64) (b := false) rfl rfl (he.g 2 64) (op_fieldAddr rfl (he.k 11) fRf0 rfl)
   ·exact fun ac W hL he => stepOk_yes (j := 2) (t := 64) (b := false) rfl rfl (he.g 2 64) (op_load rfl (he.g 3 65) (ldSl8 (hL.cell ca)) rfl)
   ·exact fun ac W hL he => stepOk_yes (j := 2) (t := 64) (b := false) rfl rfl (he.g 2 64) (op_len Tryz.underlying60 rfl (he.g 4 66) rfl)
   ·exact fun ac W hL he => stepOk_yes (j := 2) (t := 64) (b := false) rfl rfl (he.g 2 64) (op_binOp rfl (he.g 5 67) rfl (eqg_any rfl) (hg0 W) rfl)
   ·exact fun ac W hL he => stepOk_want rfl (op_pick (b := false) rfl (he.g 2 64) (he.g 6 68))
   ·exact fun ac W hL he => stepOk_want rfl (op_move rfl (he.g 7 69))
   iterate 5 (exact fun ac W hL he => stepOk_no rfl rfl (he.g 8 70) (by decide) rfl)
   ·exact fun ac W hL he => stepOk_want rfl (op_pick (b := true) rfl (he.g 8 70) rfl)
   ·exact fun ac W hL he => stepOk_want rfl (op_move rfl (he.g 14 76))
   iterate 3 (exact fun ac W hL he => stepOk_no rfl rfl (he.g 15 77) (by decide) rfl)
   ·exact fun ac W hL he => stepOk_want rfl (op_pick (b := true) rfl (he.g 15 77) rfl)
   ·exact fun ac W hL he => stepOk_want rfl (op_move rfl (he.g 19 81))
   iterate 7 (exact fun ac W hL he => stepOk_no rfl rfl (he.g 20 82) (by decide) rfl)
   ·exact fun ac W hL he => stepOk_want rfl (op_pick (b := true) rfl (he.g 20 82) rfl)
   intro xs W9 hL9 hx
   have v28 : xs 28 = .bool true := hx 28 (by decide)
   simp only [putL, Nat.reduceAdd, Act.put, List.setIfInBounds_toArray, List.set_cons_succ, List.set_cons_zero]
   rw [v28]
   obtain ⟨X2, hst, kst, hbst⟩ := HST.out W9 hL9
   clear hx v28 ca cb hrdk htg
   go_wp2_with (first
    | (guard_target =~ wpList _ _ _ (_ :: _) _ _; refine wpList_build rfl 27 _ rfl #[] (by simp only [List.map_toArray, List.map_nil]) (buildHop0 _) ?_)
    | (guard_target =~ wpList _ _ _ (_ :: _) _ _; refine wpList_store rfl 27 (.tmp 4) (.tmp 91) rfl (.pointer (some ⟨q, 0, none⟩)) (.agg (hopC noHop)) rfl rfl hst ?_)
    | fail)
   have hres : res13 false rl tok h rest = (noHop, [], 350) := by cases rl with | nil => simp at hnr; omega | cons x l => rfl
   rw [hres] at hQ
   exact hQ _ _ rfl rfl rfl rfl kst hbst
  rw [decide_eq_false hl] at hg0
  obtain rfl : rl = [] := List.eq_nil_of_length_eq_zero (by omega)
  have hnq := fun W => neqHashAny (Hm.tag key b) tag htl ht W
  rw [hto] at hnq
  cases tok with
  | false =>
   refine wp_region_list [Pr.eq (.pointer (some ⟨q11, 1, none⟩)), Pr.eq (.bool false), Pr.eq (.bool false), Pr.eq (.pointer (some ⟨q11, 0, none⟩)), Pr.eq (.slice D nr c0), Pr.eq (.int .i64 (nr : Int)), Pr.eq (.bool false), Pr.eq (.bool false), Pr.eq (.bool false), Pr.eq (.slice (some ⟨g2, 0, none⟩) 32 32), Pr.eq (.slice S n cS), Pr.eq (.agg (hC (Hm.tag key b))), Pr.eq (.agg (hC tag)), Pr.eq (.bool true), Pr.eq (.bool true), Pr.eq (.bool true), Pr.eq (undef), Pr.eq (undef), Pr.eq (undef), Pr.eq (.bool true), Pr.eq (.bool true), Pr.eq (undef), Pr.eq (undef), Pr.eq (undef), Pr.eq (undef), Pr.eq (undef), Pr.eq (undef), Pr.eq (undef), Pr.eq (.bool true)] (by kernel_rfl) (by kernel_rfl) (by kernel_rfl) (by kernel_rfl) ⟨?_, ?_, ?_, ?_, ?_, ?_, ?_, ?_, ?_, ?_, ?_, ?_, ?_, ?_, ?_, ?_, ?_, ?_, ?_, ?_, ?_, ?_, ?_, ?_, ?_, ?_, ?_, ?_, ?_, trivial⟩ ?_
   ·exact fun ac W hL he => stepOk_want rfl (op_fieldAddr rfl (he.k 11) fRf1 rfl)
   ·exact fun ac W hL he => stepOk_want rfl (op_load rfl (he.g 0 62) (ldBool (hL.cell cb)) rfl)
   ·exact fun ac W hL he => stepOk_want rfl (op_move rfl (he.g 1 63))
   ·exact fun ac W hL he => stepOk_yes (j := 2) (t := 64) (b := false) rfl rfl (he.g 2 64) (op_fieldAddr rfl (he.k 11) fRf0 rfl)
   ·exact fun ac W hL he => stepOk_yes (j := 2) (t := 64) (b := false) rfl rfl (he.g 2 64) (op_load rfl (he.g 3 65) (ldSl8 (hL.cell ca)) rfl)
   ·exact fun ac W hL he => stepOk_yes (j := 2) (t := 64) (b := false) rfl rfl (he.g 2 64) (op_len Tryz.underlying60 rfl (he.g 4 66) rfl)
   ·exact fun ac W hL he => stepOk_yes (j := 2) (t := 64) (b := false) rfl rfl (he.g 2 64) (op_binOp rfl (he.g 5 67) rfl (eqg_any rfl) (hg0 W) rfl)
   ·exact fun ac W hL he => stepOk_want rfl (op_pick (b := false) rfl (he.g 2 64) (he.g 6 68))
   ·exact fun ac W hL he => stepOk_want rfl (op_move rfl (he.g 7 69))
   ·exact fun ac W hL he => stepOk_yes (j := 8) (t := 70) (b := false) rfl rfl (he.g 8 70) (op_slice (W' := W) rfl (he.k 2) (rfl : _ = none) (rfl : _ = none) rfl (sliceHash W) rfl)
   ·exact fun ac W hL he => stepOk_yes (j := 8) (t := 70) (b := false) rfl rfl (he.g 8 70) (op_move rfl (he.k 8))
   ·intro ac W hL he; refine stepOk_yes (j := 8) (t := 70) (b := false) rfl rfl (he.g 8 70) ?_; have e0 : ac.eval (.tmp 71) = .slice (some ⟨g2, 0, none⟩) 32 32 := (he.g 9 71); have e1 : ac.eval (.tmp 72) = .slice S n cS := (he.g 10 72); exact op_callF (vs := #[.slice (some ⟨g2, 0, none⟩) 32 32, .slice S n cS]) rfl (by simp only [List.map_toArray, List.map_cons, List.map_nil, e0, e1]) (enters_of Tryz.func44 (by kernel_rfl) rfl) (((htg W hL)).mono fun e W' ⟨he', hb⟩ => ⟨_, he', hb, rfl⟩)
   ·exact fun ac W hL he => stepOk_yes (j := 8) (t := 70) (b := false) rfl rfl (he.g 8 70) (op_load rfl (he.k 7) (loadH ht (k7.later hL)) rfl)
   ·exact fun ac W hL he => stepOk_yes (j := 8) (t := 70) (b := false) rfl rfl (he.g 8 70) (op_binOp rfl (he.g 11 73) (he.g 12 74) (eqgHashR _ _ _ _ _ _) (hnq W) rfl)
   ·exact fun ac W hL he => stepOk_want rfl (op_pick (b := false) rfl (he.g 8 70) (he.g 13 75))
   ·exact fun ac W hL he => stepOk_want rfl (op_move rfl (he.g 14 76))
   iterate 3 (exact fun ac W hL he => stepOk_no rfl rfl (he.g 15 77) (by decide) rfl)
   ·exact fun ac W hL he => stepOk_want rfl (op_pick (b := true) rfl (he.g 15 77) rfl)
   ·exact fun ac W hL he => stepOk_want rfl (op_move rfl (he.g 19 81))
   iterate 7 (exact fun ac W hL he => stepOk_no rfl rfl (he.g 20 82) (by decide) rfl)
   ·exact fun ac W hL he => stepOk_want rfl (op_pick (b := true) rfl (he.g 20 82) rfl)
   intro xs W9 hL9 hx
   have v28 : xs 28 = .bool true := hx 28 (by decide)
   simp only [putL, Nat.reduceAdd, Act.put, List.setIfInBounds_toArray, List.set_cons_succ, List.set_cons_zero]
   rw [v28]
   obtain ⟨X2, hst, kst, hbst⟩ := HST.out W9 hL9
   clear hx v28 ca cb hrdk htg
   go_wp2_with (first
    | (guard_target =~ wpList _ _ _ (_ :: _) _ _; refine wpList_build rfl 27 _ rfl #[] (by simp only [List.map_toArray, List.map_nil]) (buildHop0 _) ?_)
    | (guard_target =~ wpList _ _ _ (_ :: _) _ _; refine wpList_store rfl 27 (.tmp 4) (.tmp 91) rfl (.pointer (some ⟨q, 0, none⟩)) (.agg (hopC noHop)) rfl rfl hst ?_)
    | fail)
   have hres : res13 false [] false h rest = (noHop, [], 350) := by rfl
   rw [hres] at hQ
   exact hQ _ _ rfl rfl rfl rfl kst hbst
  | true =>
   obtain ⟨pa, hpa⟩ : ∃ x, paid h.amt h.exp = x := ⟨_, rfl⟩
   have hph := fun W => refhop_any h hwf W
   rw [hpa] at hph
   cases pa with
   | false =>
    refine wp_region_list [Pr.eq (.pointer (some ⟨q11, 1, none⟩)), Pr.eq (.bool false), Pr.eq (.bool false), Pr.eq (.pointer (some ⟨q11, 0, none⟩)), Pr.eq (.slice D nr c0), Pr.eq (.int .i64 (nr : Int)), Pr.eq (.bool false), Pr.eq (.bool false), Pr.eq (.bool false), Pr.eq (.slice (some ⟨g2, 0, none⟩) 32 32), Pr.eq (.slice S n cS), Pr.eq (.agg (hC (Hm.tag key b))), Pr.eq (.agg (hC tag)), Pr.eq (.bool false), Pr.eq (.bool false), Pr.eq (.bool false), Pr.eq (.agg (hopC h)), Pr.eq (.bool false), Pr.eq (.bool true), Pr.eq (.bool true), Pr.eq (.bool true), Pr.eq (undef), Pr.eq (undef), Pr.eq (undef), Pr.eq (undef), Pr.eq (undef), Pr.eq (undef), Pr.eq (undef), Pr.eq (.bool true)] (by kernel_rfl) (by kernel_rfl) (by kernel_rfl) (by kernel_rfl) ⟨?_, ?_, ?_, ?_, ?_, ?_, ?_, ?_, ?_, ?_, ?_, ?_, ?_, ?_, ?_, ?_, ?_, ?_, ?_, ?_, ?_, ?_, ?_, ?_, ?_, ?_, ?_, ?_, ?_, trivial⟩ ?_
    ·exact fun ac W hL he => stepOk_want rfl (op_fieldAddr rfl (he.k 11) fRf1 rfl)
    ·exact fun ac W hL he => stepOk_want rfl (op_load rfl (he.g 0 62) (ldBool (hL.cell cb)) rfl)
    ·exact fun ac W hL he => stepOk_want rfl (op_move rfl (he.g 1 63))
    ·exact fun ac W hL he => stepOk_yes (j := 2) (t := 64) (b := false) rfl rfl (he.g 2 64) (op_fieldAddr rfl (he.k 11) fRf0 rfl)
    ·exact fun ac W hL he => stepOk_yes (j := 2) (t := 64) (b := false) rfl rfl (he.g 2 64) (op_load rfl (he.g 3 65) (ldSl8 (hL.cell ca)) rfl)
    ·exact fun ac W hL he => stepOk_yes (j := 2) (t := 64) (b := false) rfl rfl (he.g 2 64) (op_len Tryz.underlying60 rfl (he.g 4 66) rfl)
    ·exact fun ac W hL he => stepOk_yes (j := 2) (t := 64) (b := false) rfl rfl (he.g 2 64) (op_binOp rfl (he.g 5 67) rfl (eqg_any rfl) (hg0 W) rfl)
    ·exact fun ac W hL he => stepOk_want rfl (op_pick (b := false) rfl (he.g 2 64) (he.g 6 68))
    ·exact fun ac W hL he => stepOk_want rfl (op_move rfl (he.g 7 69))
    ·exact fun ac W hL he => stepOk_yes (j := 8) (t := 70) (b := false) rfl rfl (he.g 8 70) (op_slice (W' := W) rfl (he.k 2) (rfl : _ = none) (rfl : _ = none) rfl (sliceHash W) rfl)
    ·exact fun ac W hL he => stepOk_yes (j := 8) (t := 70) (b := false) rfl rfl (he.g 8 70) (op_move rfl (he.k 8))
    ·intro ac W hL he; refine stepOk_yes (j := 8) (t := 70) (b := false) rfl rfl (he.g 8 70) ?_; have e0 : ac.eval (.tmp 71) = .slice (some ⟨g2, 0, none⟩) 32 32 := (he.g 9 71); have e1 : ac.eval (.tmp 72) = .slice S n cS := (he.g 10 72); exact op_callF (vs := #[.slice (some ⟨g2, 0, none⟩) 32 32, .slice S n cS]) rfl (by simp only [List.map_toArray, List.map_cons, List.map_nil, e0, e1]) (enters_of Tryz.func44 (by kernel_rfl) rfl) (((htg W hL)).mono fun e W' ⟨he', hb⟩ => ⟨_, he', hb, rfl⟩)
    ·exact fun ac W hL he => stepOk_yes (j := 8) (t := 70) (b := false) rfl rfl (he.g 8 70) (op_load rfl (he.k 7) (loadH ht (k7.later hL)) rfl)
    ·exact fun ac W hL he => stepOk_yes (j := 8) (t := 70) (b := false) rfl rfl (he.g 8 70) (op_binOp rfl (he.g 11 73) (he.g 12 74) (eqgHashR _ _ _ _ _ _) (hnq W) rfl)
    ·exact fun ac W hL he => stepOk_want rfl (op_pick (b := false) rfl (he.g 8 70) (he.g 13 75))
    ·exact fun ac W hL he => stepOk_want rfl (op_move rfl (he.g 14 76))
    ·exact fun ac W hL he => stepOk_yes (j := 15) (t := 77) (b := false) rfl rfl (he.g 15 77) (op_load rfl (he.k 9) (loadHopR hwf (k9.later hL)) rfl)
    ·intro ac W hL he; refine stepOk_yes (j := 15) (t := 77) (b := false) rfl rfl (he.g 15 77) ?_; have e0 : ac.eval (.tmp 78) = .agg (hopC h) := (he.g 16 78); exact op_callF (vs := #[.agg (hopC h)]) rfl (by simp only [List.map_toArray, List.map_cons, List.map_nil, e0]) (enters_of Tryz.func28 (by kernel_rfl) rfl) (((hph W)).mono fun e W' ⟨he', hb⟩ => ⟨_, he', hb, rfl⟩)
    ·exact fun ac W hL he => stepOk_yes (j := 15) (t := 77) (b := false) rfl rfl (he.g 15 77) (op_not rfl (he.g 17 79) rfl)
    ·exact fun ac W hL he => stepOk_want rfl (op_pick (b := false) rfl (he.g 15 77) (he.g 18 80))
    ·exact fun ac W hL he => stepOk_want rfl (op_move rfl (he.g 19 81))
    iterate 7 (exact fun ac W hL he => stepOk_no rfl rfl (he.g 20 82) (by decide) rfl)
    ·exact fun ac W hL he => stepOk_want rfl (op_pick (b := true) rfl (he.g 20 82) rfl)
    intro xs W9 hL9 hx
    have v28 : xs 28 = .bool true := hx 28 (by decide)
    simp only [putL, Nat.reduceAdd, Act.put, List.setIfInBounds_toArray, List.set_cons_succ, List.set_cons_zero]
    rw [v28]
    obtain ⟨X2, hst, kst, hbst⟩ := HST.out W9 hL9
    clear hx v28 ca cb hrdk htg
    go_wp2_with (first
     | (guard_target =~ wpList _ _ _ (_ :: _) _ _; refine wpList_build rfl 27 _ rfl #[] (by simp only [List.map_toArray, List.map_nil]) (buildHop0 _) ?_)
     | (guard_target =~ wpList _ _ _ (_ :: _) _ _; refine wpList_store rfl 27 (.tmp 4) (.tmp 91) rfl (.pointer (some ⟨q, 0, none⟩)) (.agg (hopC noHop)) rfl rfl hst ?_)
     | fail)
    have hres : res13 false [] true h rest = (noHop, [], 350) := by unfold res13 fits; rw [hpa]; rfl
    rw [hres] at hQ
    exact hQ _ _ rfl rfl rfl rfl kst hbst
   | true =>
    obtain ⟨nx, hnx⟩ : ∃ x, (h.next == zh) = x := ⟨_, rfl⟩
    obtain ⟨re, hre⟩ : ∃ x, rest.isEmpty = x := ⟨_, rfl⟩
    have hqe := fun W => eqlHash h.next zh hwf.2 zh_len W
    rw [hnx] at hqe
    have hstr := fun W => eqStr0 rest W
    rw [hre] at hstr
    obtain ⟨vv, hvv⟩ : ∃ x, (nx == re) = x := ⟨_, rfl⟩
    have hbs := fun W => neqBools nx re W
    rw [hvv] at hbs
    have hft : fits h rest = vv := by unfold fits; rw [hpa, hnx, hre, hvv]; rfl
    cases vv with
    | false =>
     refine wp_region_list [Pr.eq (.pointer (some ⟨q11, 1, none⟩)), Pr.eq (.bool false), Pr.eq (.bool false), Pr.eq (.pointer (some ⟨q11, 0, none⟩)), Pr.eq (.slice D nr c0), Pr.eq (.int .i64 (nr : Int)), Pr.eq (.bool false), Pr.eq (.bool false), Pr.eq (.bool false), Pr.eq (.slice (some ⟨g2, 0, none⟩) 32 32), Pr.eq (.slice S n cS), Pr.eq (.agg (hC (Hm.tag key b))), Pr.eq (.agg (hC tag)), Pr.eq (.bool false), Pr.eq (.bool false), Pr.eq (.bool false), Pr.eq (.agg (hopC h)), Pr.eq (.bool true), Pr.eq (.bool false), Pr.eq (.bool false), Pr.eq (.bool false), Pr.eq (.pointer (some ⟨q9, 32, none⟩)), Pr.eq (.agg (hC h.next)), Pr.eq (.agg (hC zh)), Pr.eq (.bool nx), Pr.eq (.string ⟨rest.toArray⟩), Pr.eq (.bool re), Pr.eq (.bool true), Pr.eq (.bool true)] (by kernel_rfl) (by kernel_rfl) (by kernel_rfl) (by kernel_rfl) ⟨?_, ?_, ?_, ?_, ?_, ?_, ?_, ?_, ?_, ?_, ?_, ?_, ?_, ?_, ?_, ?_, ?_, ?_, ?_, ?_, ?_, ?_, ?_, ?_, ?_, ?_, ?_, ?_, ?_, trivial⟩ ?_
     ·exact fun ac W hL he => stepOk_want rfl (op_fieldAddr rfl (he.k 11) fRf1 rfl)
     ·exact fun ac W hL he => stepOk_want rfl (op_load rfl (he.g 0 62) (ldBool (hL.cell cb)) rfl)
     ·exact fun ac W hL he => stepOk_want rfl (op_move rfl (he.g 1 63))
     ·exact fun ac W hL he => stepOk_yes (j := 2) (t := 64) (b := false) rfl rfl (he.g 2 64) (op_fieldAddr rfl (he.k 11) fRf0 rfl)
     ·exact fun ac W hL he => stepOk_yes (j := 2) (t := 64) (b := false) rfl rfl (he.g 2 64) (op_load rfl (he.g 3 65) (ldSl8 (hL.cell ca)) rfl)
     ·exact fun ac W hL he => stepOk_yes (j := 2) (t := 64) (b := false) rfl rfl (he.g 2 64) (op_len Tryz.underlying60 rfl (he.g 4 66) rfl)
     ·exact fun ac W hL he => stepOk_yes (j := 2) (t := 64) (b := false) rfl rfl (he.g 2 64) (op_binOp rfl (he.g 5 67) rfl (eqg_any rfl) (hg0 W) rfl)
     ·exact fun ac W hL he => stepOk_want rfl (op_pick (b := false) rfl (he.g 2 64) (he.g 6 68))
     ·exact fun ac W hL he => stepOk_want rfl (op_move rfl (he.g 7 69))
     ·exact fun ac W hL he => stepOk_yes (j := 8) (t := 70) (b := false) rfl rfl (he.g 8 70) (op_slice (W' := W) rfl (he.k 2) (rfl : _ = none) (rfl : _ = none) rfl (sliceHash W) rfl)
     ·exact fun ac W hL he => stepOk_yes (j := 8) (t := 70) (b := false) rfl rfl (he.g 8 70) (op_move rfl (he.k 8))
     ·intro ac W hL he; refine stepOk_yes (j := 8) (t := 70) (b := false) rfl rfl (he.g 8 70) ?_; have e0 : ac.eval (.tmp 71) = .slice (some ⟨g2, 0, none⟩) 32 32 := (he.g 9 71); have e1 : ac.eval (.tmp 72) = .slice S n cS := (he.g 10 72); exact op_callF (vs := #[.slice (some ⟨g2, 0, none⟩) 32 32, .slice S n cS]) rfl (by simp only [List.map_toArray, List.map_cons, List.map_nil, e0, e1]) (enters_of Tryz.func44 (by kernel_rfl) rfl) (((htg W hL)).mono fun e W' ⟨he', hb⟩ => ⟨_, he', hb, rfl⟩)
     ·exact fun ac W hL he => stepOk_yes (j := 8) (t := 70) (b := false) rfl rfl (he.g 8 70) (op_load rfl (he.k 7) (loadH ht (k7.later hL)) rfl)
     ·exact fun ac W hL he => stepOk_yes (j := 8) (t := 70) (b := false) rfl rfl (he.g 8 70) (op_binOp rfl (he.g 11 73) (he.g 12 74) (eqgHashR _ _ _ _ _ _) (hnq W) rfl)
     ·exact fun ac W hL he => stepOk_want rfl (op_pick (b := false) rfl (he.g 8 70) (he.g 13 75))
     ·exact fun ac W hL he => stepOk_want rfl (op_move rfl (he.g 14 76))
     ·exact fun ac W hL he => stepOk_yes (j := 15) (t := 77) (b := false) rfl rfl (he.g 15 77) (op_load rfl (he.k 9) (loadHopR hwf (k9.later hL)) rfl)
     ·intro ac W hL he; refine stepOk_yes (j := 15) (t := 77) (b := false) rfl rfl (he.g 15 77) ?_; have e0 : ac.eval (.tmp 78) = .agg (hopC h) := (he.g 16 78); exact op_callF (vs := #[.agg (hopC h)]) rfl (by simp only [List.map_toArray, List.map_cons, List.map_nil, e0]) (enters_of Tryz.func28 (by kernel_rfl) rfl) (((hph W)).mono fun e W' ⟨he', hb⟩ => ⟨_, he', hb, rfl⟩)
     ·exact fun ac W hL he => stepOk_yes (j := 15) (t := 77) (b := false) rfl rfl (he.g 15 77) (op_not rfl (he.g 17 79) rfl)
     ·exact fun ac W hL he => stepOk_want rfl (op_pick (b := false) rfl (he.g 15 77) (he.g 18 80))
     ·exact fun ac W hL he => stepOk_want rfl (op_move rfl (he.g 19 81))
     ·exact fun ac W hL he => stepOk_yes (j := 20) (t := 82) (b := false) rfl rfl (he.g 20 82) (op_fieldAddr rfl (he.k 9) fHop1 rfl)
     ·exact fun ac W hL he => stepOk_yes (j := 20) (t := 82) (b := false) rfl rfl (he.g 20 82) (op_load rfl (he.g 21 83) (loadNextR hwf (k9.later hL)) rfl)
     ·intro ac W hL he; refine stepOk_yes (j := 20) (t := 82) (b := false) rfl rfl (he.g 20 82) ?_; exact op_build (vs := #[]) rfl (by simp only [List.map_toArray, List.map_cons, List.map_nil]) (buildH0r W) rfl
     ·exact fun ac W hL he => stepOk_yes (j := 20) (t := 82) (b := false) rfl rfl (he.g 20 82) (op_binOp rfl (he.g 22 84) (he.g 23 85) (eqgHashR _ _ _ _ _ _) (hqe W) rfl)
     ·exact fun ac W hL he => stepOk_yes (j := 20) (t := 82) (b := false) rfl rfl (he.g 20 82) (op_move rfl (he.k 10))
     ·exact fun ac W hL he => stepOk_yes (j := 20) (t := 82) (b := false) rfl rfl (he.g 20 82) (op_binOp rfl (he.g 25 87) rfl (by kernel_rfl) (hstr W) rfl)
     ·exact fun ac W hL he => stepOk_yes (j := 20) (t := 82) (b := false) rfl rfl (he.g 20 82) (op_binOp rfl (he.g 24 86) (he.g 26 88) (by kernel_rfl) (hbs W) rfl)
     ·exact fun ac W hL he => stepOk_want rfl (op_pick (b := false) rfl (he.g 20 82) (he.g 27 89))
     intro xs W9 hL9 hx
     have v28 : xs 28 = .bool true := hx 28 (by decide)
     simp only [putL, Nat.reduceAdd, Act.put, List.setIfInBounds_toArray, List.set_cons_succ, List.set_cons_zero]
     rw [v28]
     obtain ⟨X2, hst, kst, hbst⟩ := HST.out W9 hL9
     clear hx v28 ca cb hrdk htg
     go_wp2_with (first
      | (guard_target =~ wpList _ _ _ (_ :: _) _ _; refine wpList_build rfl 27 _ rfl #[] (by simp only [List.map_toArray, List.map_nil]) (buildHop0 _) ?_)
      | (guard_target =~ wpList _ _ _ (_ :: _) _ _; refine wpList_store rfl 27 (.tmp 4) (.tmp 91) rfl (.pointer (some ⟨q, 0, none⟩)) (.agg (hopC noHop)) rfl rfl hst ?_)
      | fail)
     have hres : res13 false [] true h rest = (noHop, [], 350) := by unfold res13; rw [hft]; rfl
     rw [hres] at hQ
     exact hQ _ _ rfl rfl rfl rfl kst hbst
    | true =>
     refine wp_region_list [Pr.eq (.pointer (some ⟨q11, 1, none⟩)), Pr.eq (.bool false), Pr.eq (.bool false), Pr.eq (.pointer (some ⟨q11, 0, none⟩)), Pr.eq (.slice D nr c0), Pr.eq (.int .i64 (nr : Int)), Pr.eq (.bool false), Pr.eq (.bool false), Pr.eq (.bool false), Pr.eq (.slice (some ⟨g2, 0, none⟩) 32 32), Pr.eq (.slice S n cS), Pr.eq (.agg (hC (Hm.tag key b))), Pr.eq (.agg (hC tag)), Pr.eq (.bool false), Pr.eq (.bool false), Pr.eq (.bool false), Pr.eq (.agg (hopC h)), Pr.eq (.bool true), Pr.eq (.bool false), Pr.eq (.bool false), Pr.eq (.bool false), Pr.eq (.pointer (some ⟨q9, 32, none⟩)), Pr.eq (.agg (hC h.next)), Pr.eq (.agg (hC zh)), Pr.eq (.bool nx), Pr.eq (.string ⟨rest.toArray⟩), Pr.eq (.bool re), Pr.eq (.bool false), Pr.eq (.bool false)] (by kernel_rfl) (by kernel_rfl) (by kernel_rfl) (by kernel_rfl) ⟨?_, ?_, ?_, ?_, ?_, ?_, ?_, ?_, ?_, ?_, ?_, ?_, ?_, ?_, ?_, ?_, ?_, ?_, ?_, ?_, ?_, ?_, ?_, ?_, ?_, ?_, ?_, ?_, ?_, trivial⟩ ?_
     ·exact fun ac W hL he => stepOk_want rfl (op_fieldAddr rfl (he.k 11) fRf1 rfl)
     ·exact fun ac W hL he => stepOk_want rfl (op_load rfl (he.g 0 62) (ldBool (hL.cell cb)) rfl)
     ·exact fun ac W hL he => stepOk_want rfl (op_move rfl (he.g 1 63))
     ·exact fun ac W hL he => stepOk_yes (j := 2) (t := 64) (b := false) rfl rfl (he.g 2 64) (op_fieldAddr rfl (he.k 11) fRf0 rfl)
     ·exact fun ac W hL he => stepOk_yes (j := 2) (t := 64) (b := false) rfl rfl (he.g 2 64) (op_load rfl (he.g 3 65) (ldSl8 (hL.cell ca)) rfl)
     ·exact fun ac W hL he => stepOk_yes (j := 2) (t := 64) (b := false) rfl rfl (he.g 2 64) (op_len Tryz.underlying60 rfl (he.g 4 66) rfl)
     ·exact fun ac W hL he => stepOk_yes (j := 2) (t := 64) (b := false) rfl rfl (he.g 2 64) (op_binOp rfl (he.g 5 67) rfl (eqg_any rfl) (hg0 W) rfl)
     ·exact fun ac W hL he => stepOk_want rfl (op_pick (b := false) rfl (he.g 2 64) (he.g 6 68))
     ·exact fun ac W hL he => stepOk_want rfl (op_move rfl (he.g 7 69))
     ·exact fun ac W hL he => stepOk_yes (j := 8) (t := 70) (b := false) rfl rfl (he.g 8 70) (op_slice (W' := W) rfl (he.k 2) (rfl : _ = none) (rfl : _ = none) rfl (sliceHash W) rfl)
     ·exact fun ac W hL he => stepOk_yes (j := 8) (t := 70) (b := false) rfl rfl (he.g 8 70) (op_move rfl (he.k 8))
     ·intro ac W hL he; refine stepOk_yes (j := 8) (t := 70) (b := false) rfl rfl (he.g 8 70) ?_; have e0 : ac.eval (.tmp 71) = .slice (some ⟨g2, 0, none⟩) 32 32 := (he.g 9 71); have e1 : ac.eval (.tmp 72) = .slice S n cS := (he.g 10 72); exact op_callF (vs := #[.slice (some ⟨g2, 0, none⟩) 32 32, .slice S n cS]) rfl (by simp only [List.map_toArray, List.map_cons, List.map_nil, e0, e1]) (enters_of Tryz.func44 (by kernel_rfl) rfl) (((htg W hL)).mono fun e W' ⟨he', hb⟩ => ⟨_, he', hb, rfl⟩)
     ·exact fun ac W hL he => stepOk_yes (j := 8) (t := 70) (b := false) rfl rfl (he.g 8 70) (op_load rfl (he.k 7) (loadH ht (k7.later hL)) rfl)
     ·exact fun ac W hL he => stepOk_yes (j := 8) (t := 70) (b := false) rfl rfl (he.g 8 70) (op_binOp rfl (he.g 11 73) (he.g 12 74) (eqgHashR _ _ _ _ _ _) (hnq W) rfl)
     ·exact fun ac W hL he => stepOk_want rfl (op_pick (b := false) rfl (he.g 8 70) (he.g 13 75))
     ·exact fun ac W hL he => stepOk_want rfl (op_move rfl (he.g 14 76))
     ·exact fun ac W hL he => stepOk_yes (j := 15) (t := 77) (b := false) rfl rfl (he.g 15 77) (op_load rfl (he.k 9) (loadHopR hwf (k9.later hL)) rfl)
     ·intro ac W hL he; refine stepOk_yes (j := 15) (t := 77) (b := false) rfl rfl (he.g 15 77) ?_; have e0 : ac.eval (.tmp 78) = .agg (hopC h) := (he.g 16 78); exact op_callF (vs := #[.agg (hopC h)]) rfl (by simp only [List.map_toArray, List.map_cons, List.map_nil, e0]) (enters_of Tryz.func28 (by kernel_rfl) rfl) (((hph W)).mono fun e W' ⟨he', hb⟩ => ⟨_, he', hb, rfl⟩)
     ·exact fun ac W hL he => stepOk_yes (j := 15) (t := 77) (b := false) rfl rfl (he.g 15 77) (op_not rfl (he.g 17 79) rfl)
     ·exact fun ac W hL he => stepOk_want rfl (op_pick (b := false) rfl (he.g 15 77) (he.g 18 80))
     ·exact fun ac W hL he => stepOk_want rfl (op_move rfl (he.g 19 81))
     ·exact fun ac W hL he => stepOk_yes (j := 20) (t := 82) (b := false) rfl rfl (he.g 20 82) (op_fieldAddr rfl (he.k 9) fHop1 rfl)
     ·exact fun ac W hL he => stepOk_yes (j := 20) (t := 82) (b := false) rfl rfl (he.g 20 82) (op_load rfl (he.g 21 83) (loadNextR hwf (k9.later hL)) rfl)
     ·intro ac W hL he; refine stepOk_yes (j := 20) (t := 82) (b := false) rfl rfl (he.g 20 82) ?_; exact op_build (vs := #[]) rfl (by simp only [List.map_toArray, List.map_cons, List.map_nil]) (buildH0r W) rfl
     ·exact fun ac W hL he => stepOk_yes (j := 20) (t := 82) (b := false) rfl rfl (he.g 20 82) (op_binOp rfl (he.g 22 84) (he.g 23 85) (eqgHashR _ _ _ _ _ _) (hqe W) rfl)
     ·exact fun ac W hL he => stepOk_yes (j := 20) (t := 82) (b := false) rfl rfl (he.g 20 82) (op_move rfl (he.k 10))
     ·exact fun ac W hL he => stepOk_yes (j := 20) (t := 82) (b := false) rfl rfl (he.g 20 82) (op_binOp rfl (he.g 25 87) rfl (by kernel_rfl) (hstr W) rfl)
     ·exact fun ac W hL he => stepOk_yes (j := 20) (t := 82) (b := false) rfl rfl (he.g 20 82) (op_binOp rfl (he.g 24 86) (he.g 26 88) (by kernel_rfl) (hbs W) rfl)
     ·exact fun ac W hL he => stepOk_want rfl (op_pick (b := false) rfl (he.g 20 82) (he.g 27 89))
     intro xs W9 hL9 hx
     have v28 : xs 28 = .bool false := hx 28 (by decide)
     simp only [putL, Nat.reduceAdd, Act.put, List.setIfInBounds_toArray, List.set_cons_succ, List.set_cons_zero]
     rw [v28]
     have hres : res13 false [] true h rest = (h, rest, 0) := by unfold res13; rw [hft]; rfl
     clear hx v28 ca cb hrdk htg
     go_wp2_with fail
     exact hN hres _ _ _ _ _ _ _ _ _ _ _ _ _ _ _ _ _ _ _ _ _ _ _ _ _ _ _ _ _ W9 hL9
theorem bRf0 (A : Option Addr) (n c : Nat) (w : World) : (Instr.build 89 #[(0, .slice A n c)]).run Tryz.prog w = .ok (.agg (rfV A n c false)) w := by kernel_rfl
theorem okQ_iff (b : List UInt8) : (okQ b = true /\ (q4 b).2.2 = 0) ↔ (q4 b).1.2 = false := by
 have h1 := (hashR_ok (l := b) (bad := false))
 have h2 := (numR_ok (l := (q1 b).1.1) (bad := (q1 b).1.2) (most := 1125899906842624) (by decide))
 have h3 := (numR_ok (l := (q2 b).1.1) (bad := (q2 b).1.2) (most := 2147483647) (by decide))
 have h4 := (textR_ok (l := (q3 b).1.1) (bad := (q3 b).1.2) (most := 512) (by decide))
 have e : okQ b = true ↔ ((q1 b).2.2 = 0 /\ (q2 b).2.2 = 0 /\ (q3 b).2.2 = 0) := by
  unfold okQ
  rw [List.all_eq_true]
  constructor
  ·intro h
   exact ⟨of_decide_eq_true (h 0 (by simp)), of_decide_eq_true (h 1 (by simp)), of_decide_eq_true (h 2 (by simp))⟩
  ·rintro ⟨a, b', c⟩ j hj
   rw [List.mem_range] at hj
   rcases j with _ | _ | _ | j
   ·exact decide_eq_true a
   ·exact decide_eq_true b'
   ·exact decide_eq_true c
   ·omega
 rw [e]
 constructor
 ·rintro ⟨⟨a1, a2, a3⟩, a4⟩
  exact h4.1.2 ⟨h3.1.2 ⟨h2.1.2 ⟨h1.1.2 ⟨rfl, a1⟩, a2⟩, a3⟩, a4⟩
 ·intro h
  obtain ⟨b3, a4⟩ := h4.1.1 h
  obtain ⟨b2, a3⟩ := h3.1.1 b3
  obtain ⟨b1, a2⟩ := h2.1.1 b2
  obtain ⟨-, a1⟩ := h1.1.1 b1
  exact ⟨⟨a1, a2, a3⟩, a4⟩
def Rt.hopD (key b : List UInt8) : Hop := ⟨key, pd (q1 b).2.1, (q2 b).2.1, (q3 b).2.1⟩
theorem hopD_ok {key b : List UInt8} (hk : key.length = 32) (h : okQ b = true) : hopD key b = hopOf key b := by
 have hw := hopOf_wf hk h
 unfold hopD
 rw [pd_id (show (q1 b).2.1.length = 32 from hw.2)]
 rfl
theorem peel_res {key b tag : List UInt8} (hk : key.length = 32) : (if Hm.tag key b == tag then peelB key b else (noHop, [], 350)) = res13 (q4 b).1.2 (q4 b).1.1 (Hm.tag key b == tag) (hopD key b) (q4 b).2.1 := by
 unfold res13 peelB okPeel
 cases ht : (Hm.tag key b == tag) with
 | false => simp
 | true =>
  rw [if_pos rfl, Bool.true_and]
  cases hb : (q4 b).1.2 with
  | true =>
   have hno : (okQ b && (decide ((q4 b).2.2 = 0) && (decide (qEnd b = 0) && fits (hopOf key b) (q4 b).2.1))) = false := by
    cases h1 : okQ b with
    | false => rfl
    | true =>
     by_cases h2 : (q4 b).2.2 = 0
     ·have := (okQ_iff b).1 ⟨h1, h2⟩
      rw [hb] at this
      cases this
     ·rw [decide_eq_false h2]; rfl
   rw [hno]
   rfl
  | false =>
   obtain ⟨h1, h2⟩ := (okQ_iff b).2 hb
   have he : decide (qEnd b = 0) = (q4 b).1.1.isEmpty := by
    unfold qEnd Wr.endR
    rw [hb]
    cases (q4 b).1.1 with
    | nil => rfl
    | cons x l => rfl
   rw [h1, decide_eq_true h2, he, hopD_ok hk h1]
   rfl
theorem peel_wf {key s : List UInt8} (hk : key.length = 32) : (peel key s).1.wf := by
 have h : ∀ b, (peelB key b).1.wf := fun b => by
  unfold peelB
  split
  ·next h => exact hopOf_wf hk (by unfold okPeel at h; simp only [Bool.and_eq_true] at h; exact h.1)
  ·exact noHop_wf
 unfold peel
 split
 ·split
  ·exact h _
  ·exact noHop_wf
 ·exact noHop_wf
theorem refPeel_any (key s : List UInt8) (hk : key.length = 32) (hs : s.length <= 1000000) (w : World) :
  Calls Tryz.prog 13 #[.agg (hC key), .string ⟨s.toArray⟩] w fun e w' => e = .returned (.tuple #[.agg (hopC (peel key s).1), .string ⟨(peel key s).2.1.toArray⟩, .int .i64 (peel key s).2.2]) /\ Below w.heap.size w w' := by
 refine Calls.post fun Φ HΦ => ?_
 have hsz : (⟨s.toArray⟩ : ByteArray).size = s.length := rfl
 have k2 := (Row.new w 25 (hC key)).alloc (.cells (hopC noHop) 27)
 have k4 := Row.new (w.alloc (.cells (hC key) 25)) 27 (hopC noHop)
 have hb : Below w.heap.size w ((w.alloc (.cells (hC key) 25)).alloc (.cells (hopC noHop) 27)) := (((Later.refl w).alloc _).alloc _).below
 have hs2 : ((w.alloc (.cells (hC key) 25)).alloc (.cells (hopC noHop) 27)).heap.size = w.heap.size + 2 := by simp
 have hbx := boxH key hk w
 simp only [World.size_alloc] at k4
 go_enter Tryz.func13, Tryz.ntmps13
 go_upto_region 1 with (first
  | (guard_target =~ wpList _ _ _ (_ :: _) _ _; refine wpList_box rfl 25 (.tmp 0) rfl (.agg (hC key)) rfl hbx ?_)
  | (with_reducible refine wpList_alloc rfl 27 rfl (allocHop _) ?_)
  | fail)
 try simp only [World.size_alloc]
 clear hbx
 generalize (w.alloc (.cells (hC key) 25)).alloc (.cells (hopC noHop) 27) = w1 at *
 obtain ⟨g2, hg2⟩ : ∃ g, g = w.heap.size := ⟨_, rfl⟩
 obtain ⟨q, hq0⟩ : ∃ g, g = w.heap.size + 1 := ⟨_, rfl⟩
 rw [<- hq0] at k4 ⊢
 rw [<- hg2] at k2 ⊢
 have HZ : Hid (g2 = w.heap.size /\ q = w.heap.size + 1 /\ w1.heap.size = w.heap.size + 2) := Lib.hid ⟨hg2, hq0, hs2⟩
 have hqw : w.heap.size <= q := by omega
 clear hg2 hq0 hs2
 by_cases hsh : 32 <= s.length /\ s.length <= 512
 case neg =>
  have hp : peel key s = (noHop, [], 350) := by unfold peel; rw [if_neg hsh]
  rw [hp] at HΦ
  obtain ⟨X2, hst, kst, hgst⟩ := storeHop noHop_wf noHop_wf k4
  have hbst : Below w.heap.size w X2 := hb.grown hgst hb.size (fun j e => by cases e; exact hqw)
  clear hgst hp k4 k2 hb
  by_cases h1 : s.length < 32
  ·have d1 : decide ((s.length : Int) < 32) = true := decide_eq_true (by omega)
   have d1' : decide (s.length < 32) = true := decide_eq_true h1
   clear hsh
   go_wp2_with (first
    | (guard_target =~ wpList _ _ _ (_ :: _) _ _; refine wpList_build rfl 27 _ rfl #[] (by simp only [List.map_toArray, List.map_nil]) (buildHop0 _) ?_)
    | (guard_target =~ wpList _ _ _ (_ :: _) _ _; refine wpList_store rfl 27 (.tmp 4) (.tmp 20) rfl (.pointer (some ⟨q, 0, none⟩)) (.agg (hopC noHop)) rfl rfl hst ?_)
    | fail)
   exact bodyPost_ret (results_ctt rfl _ _ q 27 (hopC noHop) _ _ _ rfl rfl rfl kst Tryz.underlying27 rfl (by rw [hopC_size noHop_wf]; exact infoHop)) rfl (HΦ.out _ _ ⟨rfl, hbst⟩)
  ·have d1 : decide ((s.length : Int) < 32) = false := decide_eq_false (by omega)
   have d1' : decide (s.length < 32) = false := decide_eq_false h1
   have h3 : 512 < s.length := by omega
   have d3 : decide ((s.length : Int) > 512) = true := decide_eq_true (by omega)
   have d3' : decide (512 < (s.length : Int)) = true := decide_eq_true (by omega)
   have d3'' : decide (512 < s.length) = true := decide_eq_true h3
   clear hsh
   go_wp2_with (first
    | (guard_target =~ wpList _ _ _ (_ :: _) _ _; refine wpList_build rfl 27 _ rfl #[] (by simp only [List.map_toArray, List.map_nil]) (buildHop0 _) ?_)
    | (guard_target =~ wpList _ _ _ (_ :: _) _ _; refine wpList_store rfl 27 (.tmp 4) (.tmp 20) rfl (.pointer (some ⟨q, 0, none⟩)) (.agg (hopC noHop)) rfl rfl hst ?_)
    | fail)
   exact bodyPost_ret (results_ctt rfl _ _ q 27 (hopC noHop) _ _ _ rfl rfl rfl kst Tryz.underlying27 rfl (by rw [hopC_size noHop_wf]; exact infoHop)) rfl (HΦ.out _ _ ⟨rfl, hbst⟩)
 have hpl : peel key s = if Hm.tag key (mask key (s.take 32) (s.drop 32)) == s.take 32 then peelB key (mask key (s.take 32) (s.drop 32)) else (noHop, [], 350) := by unfold peel; rw [if_pos hsh]
 have d1 : decide ((s.length : Int) < 32) = false := decide_eq_false (by omega)
 have d1' : decide (s.length < 32) = false := decide_eq_false (by omega)
 have d3 : decide ((s.length : Int) > 512) = false := decide_eq_false (by omega)
 have d3' : decide (512 < (s.length : Int)) = false := decide_eq_false (by omega)
 have d3'' : decide (512 < s.length) = false := decide_eq_false (by omega)
 have hsl1 := fun W => run_str_to s 32 (by omega) (by omega) W
 have hsl2 := fun W => run_str_from s 32 (by omega) (by omega) W
 obtain ⟨tag, htag⟩ : ∃ t, s.take 32 = t := ⟨_, rfl⟩
 obtain ⟨c, hc⟩ : ∃ t, s.drop 32 = t := ⟨_, rfl⟩
 have htl : tag.length = 32 := by rw [<- htag, List.length_take]; omega
 have hcl : c.length <= 512 := by rw [<- hc, List.length_drop]; omega
 rw [htag] at hpl hsl1
 rw [hc] at hpl hsl2
 rw [peel_res hk] at hpl
 obtain ⟨b, hb0⟩ : ∃ b, mask key tag c = b := ⟨_, rfl⟩
 obtain ⟨n, hn⟩ : ∃ n, c.length = n := ⟨_, rfl⟩
 have hbl : b.length = n := by rw [<- hb0, mask_len, hn]
 rw [hb0] at hpl
 rw [hn] at hcl
 have HN := Lib.hid hn
 have HBL := Lib.hid hbl
 have HB0 := Lib.hid hb0
 have HPL := Lib.hid hpl
 clear hpl htag hc hn hbl hb0 hsh
 have k7 := Row.new w1 25 (hC [])
 have L7 : Later w1 (w1.alloc (.cells (hC []) 25)) := below_new w1 _
 go_upto_region 4 with (first
  | (with_reducible refine wpList_alloc rfl 25 rfl (allocH _) ?_)
  | fail)
 obtain ⟨q7, hq7⟩ : ∃ g, g = w1.heap.size := ⟨_, rfl⟩
 rw [<- hq7] at k7 ⊢
 have k2a := k2.later L7
 have k4a := k4.later L7
 have hba := hb.trans (L7.below.mono hb.size)
 have H7 : Hid (q7 = w.heap.size + 2) := Lib.hid (by have := HZ.out.2.2; omega)
 clear k2 k4 hb L7 hq7 d1 d1' d3 d3' d3''
 generalize w1.alloc (.cells (hC []) 25) = w2 at *
 rename_i K4 hK4
 have HK4 := Lib.hid hK4
 clear hK4
 refine (wpIn_wide (n := 0)).1 ?_
 refine wpIn_region_last wide_wide [Pr.eq (.slice (some ⟨q7, 0, none⟩) 32 32), Pr.eq (.string ⟨s.toArray⟩), Pr.eq (.string ⟨tag.toArray⟩)] (by kernel_rfl) (by kernel_rfl) (by kernel_rfl) (by kernel_rfl) (by kernel_rfl) (by kernel_rfl) rfl ⟨?_, ?_, ?_, trivial⟩ ?_
 ·exact fun ac W hL he => stepOk_want rfl (op_slice (W' := W) rfl (he.k 7) (rfl : _ = none) (rfl : _ = none) rfl (sliceHash _) rfl)
 ·exact fun ac W hL he => stepOk_want rfl (op_move rfl (he.k 1))
 ·exact fun ac W hL he => stepOk_want rfl (op_slice (W' := W) rfl (he.g 1 22) (rfl : _ = none) (congrArg some rfl) rfl (hsl1 W) rfl)
 intro xs4 W4 hL4 hx4 hk4 hgt4
 have v0 : xs4 0 = .slice (some ⟨q7, 0, none⟩) 32 32 := hx4 0 (by decide)
 have v2 : xs4 2 = .string ⟨tag.toArray⟩ := hx4 2 (by decide)
 have e1 := (hgt4 0 21 (by decide) (by kernel_rfl)).trans v0
 have e2 := (hgt4 2 23 (by decide) (by kernel_rfl)).trans v2
 refine ⟨op_copy_str (.tmp 21) (.tmp 23) 60 9 rfl 5 Tryz.underlying60 (by kernel_rfl) q7 32 tag [] htl (by simp) e1 e2 25 (k7.later hL4) ?_⟩
 intro W5 k75 hg5
 simp only [initL, lastL, putL, Nat.reduceAdd, Act.put, List.setIfInBounds_toArray, List.set_cons_succ, List.set_cons_zero]
 have hzz := HZ.out
 have h77 := H7.out
 have k25 := (k2a.later hL4).grown hg5 (fun e => by have := Option.some.inj e; omega)
 have k45 := (k4a.later hL4).grown hg5 (fun e => by have := Option.some.inj e; omega)
 have hb5 := (hba.trans (hL4.below.mono hba.size)).grown hg5 (Nat.le_trans hba.size hL4.size) (fun j e => by have := Option.some.inj e; omega)
 have hs5 : w.heap.size + 3 <= W5.heap.size := by have := k75.lt; omega
 have HS5 := Lib.hid hs5
 clear hx4 hk4 hgt4 v0 v2 e1 e2 k7 k2a k4a hba hL4 hg5 hsl1 hzz h77 hs5
 refine HK4.out _ _ ?_
 clear HK4
 have HN3 := HN.out
 go_upto_region 5 with fail
 refine wp_region_list [Pr.eq (.agg (hC key)), Pr.eq (.agg (hC tag)), Pr.eq (.string ⟨s.toArray⟩), Pr.eq (.string ⟨c.toArray⟩), Pr.slM n c, Pr.slM n b, Pr.slM n b] (by kernel_rfl) (by kernel_rfl) (by kernel_rfl) (by kernel_rfl) ⟨?_, ?_, ?_, ?_, ?_, ?_, ?_, trivial⟩ ?_
 ·exact fun ac W hL he => stepOk_want rfl (op_load rfl (he.k 2) (loadH hk (k25.later hL)) rfl)
 ·exact fun ac W hL he => stepOk_want rfl (op_load rfl (he.k 7) (loadH htl (k75.later hL)) rfl)
 ·exact fun ac W hL he => stepOk_want rfl (op_move rfl (he.k 1))
 ·exact fun ac W hL he => stepOk_want rfl (op_slice (W' := W) rfl (he.g 2 27) (congrArg some rfl) (rfl : _ = none) rfl (hsl2 W) rfl)
 ·intro ac W hL he; refine stepOk_want rfl ?_; have e0 : ac.eval (.tmp 28) = .string ⟨c.toArray⟩ := he.g 3 28; obtain ⟨W2, cap, h1, h2, h3, h4, h5⟩ := conv_rd W c (by omega); rw [HN3] at h1 h3; exact op_conv rfl e0 h1 h5 ⟨_, cap, rfl, h3, h4, h2⟩
 ·intro ac W hL he; refine stepOk_want rfl ?_; have e0 : ac.eval (.tmp 25) = .agg (hC key) := he.g 0 25; have e1 : ac.eval (.tmp 26) = .agg (hC tag) := he.g 1 26; obtain ⟨S, cS, e2, h1, h2, h3⟩ : (Pr.slM n c).R (ac.eval (.tmp 29)) W := he.g 4 29; exact op_callF (vs := #[.agg (hC key), .agg (hC tag), .slice S n cS]) rfl (by simp only [List.map_toArray, List.map_cons, List.map_nil, e0, e1, e2]) (enters_of Tryz.func40 (by kernel_rfl) rfl) ((refXored_any key tag S n cS c W hk htl HN3 (by omega) h3).mono fun e W' ⟨v, he', ho, hb⟩ => ⟨_, he', hb, by obtain ⟨S', c', e5, h5, h6, h7⟩ := ho.slice; rw [HB0.out, HBL.out] at e5 h5; rw [HB0.out] at h7; exact ⟨S', c', e5, h5, Nat.le_trans h6 (by decide), h7⟩⟩)
 ·exact fun ac W hL he => stepOk_want rfl (op_assign rfl (he.g 5 30))
 intro xs W6 hL hx
 obtain ⟨S, cS, v6, hSc, hScm, hRS⟩ : (Pr.slM n b).R (xs 6) W6 := hx 6 (by decide)
 simp only [putL, Nat.reduceAdd, Act.put, List.setIfInBounds_toArray, List.set_cons_succ, List.set_cons_zero]
 rw [v6]
 have k26 := k25.later hL
 have k46 := k45.later hL
 have k76 := k75.later hL
 have hb6 := hb5.trans (hL.below.mono hb5.size)
 have HS6 : Hid (w.heap.size + 3 <= W6.heap.size) := Lib.hid (Nat.le_trans HS5.out hL.size)
 clear hx v6 k25 k45 k75 hb5 hL hsl2
 have hw1 : (⟨key, zh, 0, 0⟩ : Hop).wf := ⟨hk, zh_len⟩
 have hldk := loadH hk k26
 obtain ⟨w7, hst7, k97, hL7⟩ := newHop W6 hw1
 obtain ⟨q9, hq9⟩ : ∃ x, x = W6.heap.size := ⟨_, rfl⟩
 have HQ9 := Lib.hid hq9
 have L8 : Later w7 (w7.alloc (.cells (rfV S n cS false) 89)) := below_new w7 _
 have k11 := Row.new w7 89 (rfV S n cS false)
 have HD0 : Hid (DR W6 W6.heap.size w7.heap.size 27 S b (b, false) ⟨key, zh, 0, 0⟩ (w7.alloc (.cells (rfV S n cS false) 89))) := Lib.hid ⟨(hL7.step L8).below, hRS.later (hL7.step L8), fun bl o e hne => by have := hRS.lt e hne; have := hL7.size; omega, ⟨S, cS, by rw [HBL.out]; exact k11, by rw [HBL.out]; exact hSc, hScm, fun X h => h⟩, k97.later L8, hw1, by have := k97.lt; omega, Nat.le_refl _, hL7.size, by rw [HBL.out]; show n <= 1000000; omega⟩
 clear L8 k11 k97 hL7 hq9
 go_upto_region 9 with (first
  | (guard_target =~ wpList _ _ _ (_ :: _) _ _; refine wpList_load rfl 25 (.tmp 2) rfl (.pointer (some ⟨g2, 0, none⟩)) rfl hldk ?_)
  | (guard_target =~ wpList _ _ _ (_ :: _) _ _; refine wpList_build rfl 27 _ rfl #[(0, .agg (hC key))] (by simp only [List.map_toArray, List.map_cons, List.map_nil]; rfl) (bHop1 hk _) ?_)
  | (with_reducible refine wpList_alloc rfl 27 rfl (allocHop _) ?_)
  | (guard_target =~ wpList _ _ _ (_ :: _) _ _; refine wpList_store rfl 27 (.tmp 9) (.tmp 32) rfl (.pointer (some ⟨W6.heap.size, 0, none⟩)) (.agg (hopC ⟨key, zh, 0, 0⟩)) rfl rfl hst7 ?_)
  | (guard_target =~ wpList _ _ _ (_ :: _) _ _; refine wpList_build rfl 89 _ rfl #[(0, .slice S n cS)] (by simp only [List.map_toArray, List.map_cons, List.map_nil]; rfl) (bRf0 S n cS _) ?_)
  | (with_reducible refine wpList_alloc rfl 89 rfl (allocRf _) ?_)
  | fail)
 obtain ⟨q11, hq11⟩ : ∃ x, x = w7.heap.size := ⟨_, rfl⟩
 have HD : Hid (DR W6 q9 q11 27 S b (b, false) ⟨key, zh, 0, 0⟩ (w7.alloc (.cells (rfV S n cS false) 89))) := Lib.hid (by rw [HQ9.out, hq11]; exact HD0.out)
 try simp only [Act.put, List.setIfInBounds_toArray, List.set_cons_zero, List.set_cons_succ]
 rw [<- hq11, <- HQ9.out]
 clear HD0 hst7 hldk
 generalize w7.alloc (.cells (rfV S n cS false) 89) = w8 at *
 have HQ11 := Lib.hid hq11
 clear hq11
 obtain ⟨v1, hld1, hcl1⟩ := HD.out.next
 have hcl1 : Calls Tryz.prog 41 #[v1] _ fun e w2 => ∃ v, e = .returned (.tuple #[v, .agg (hC (q1 b).2.1), .int .i64 (q1 b).2.2]) /\ ∃ w3, (Instr.storeAt 89 (.pointer (some ⟨q11, 0, none⟩)) v).run Tryz.prog w2 = .ok () w3 /\ ∃ w4, (Instr.storeAt 25 (.pointer (some ⟨q9, 32, none⟩)) (.agg (hC (q1 b).2.1))).run Tryz.prog w3 = .ok () w4 /\ DR W6 q9 q11 27 S b (q1 b).1 (⟨key, pd (q1 b).2.1, 0, 0⟩) w4 := hcl1
 clear HD
 obtain ⟨x1, hx1⟩ : ∃ x, hC (q1 b).2.1 = x := ⟨_, rfl⟩
 obtain ⟨e1, he1⟩ : ∃ x, (q1 b).2.2 = x := ⟨_, rfl⟩
 rw [hx1, he1] at hcl1
 clear hx1 he1
 go_upto_region 10 with (first
  | (guard_target =~ wpList _ _ _ (_ :: _) _ _; refine wpList_load rfl 89 (.tmp 11) rfl (.pointer (some ⟨q11, 0, none⟩)) rfl hld1 ?_)
  | (go_at_call 41; refine hcl1.mono ?_; clear hcl1; rintro e a1 ⟨y1, rfl, b1, hs1, c1, ht1, hd1⟩; have HD := Lib.hid hd1; clear hd1)
  | (guard_target =~ wpList _ _ _ (_ :: _) _ _; refine wpList_store rfl 89 (.tmp 11) (.tmp 38) rfl (.pointer (some ⟨q11, 0, none⟩)) y1 rfl rfl hs1 ?_)
  | (guard_target =~ wpList _ _ _ (_ :: _) _ _; refine wpList_field rfl 27 (.tmp 9) 1 rfl (.pointer (some ⟨q9, 0, none⟩)) rfl fHop1 ?_)
  | (guard_target =~ wpList _ _ _ (_ :: _) _ _; refine wpList_store rfl 25 (.tmp 41) (.tmp 39) rfl (.pointer (some ⟨q9, 32, none⟩)) (.agg x1) rfl rfl ht1 ?_)
  | fail)
 obtain ⟨v2, hld2, hcl2⟩ := HD.out.amt 1125899906842624
 have hcl2 : Calls Tryz.prog 42 #[v2, .int .i64 1125899906842624] _ fun e w2 => ∃ v, e = .returned (.tuple #[v, .int .i64 (q2 b).2.1, .int .i64 (q2 b).2.2]) /\ ∃ w3, (Instr.storeAt 89 (.pointer (some ⟨q11, 0, none⟩)) v).run Tryz.prog w2 = .ok () w3 /\ ∃ w4, (Instr.storeAt 2 (.pointer (some ⟨q9, 64, none⟩)) (.int .i64 (q2 b).2.1)).run Tryz.prog w3 = .ok () w4 /\ DR W6 q9 q11 27 S b (q2 b).1 (⟨key, pd (q1 b).2.1, (q2 b).2.1, 0⟩) w4 := hcl2
 clear HD
 obtain ⟨x2, hx2⟩ : ∃ x, (q2 b).2.1 = x := ⟨_, rfl⟩
 obtain ⟨e2, he2⟩ : ∃ x, (q2 b).2.2 = x := ⟨_, rfl⟩
 rw [he2] at hcl2
 clear hx2 he2
 go_upto_region 11 with (first
  | (guard_target =~ wpList _ _ _ (_ :: _) _ _; refine wpList_load rfl 89 (.tmp 11) rfl (.pointer (some ⟨q11, 0, none⟩)) rfl hld2 ?_)
  | (go_at_call 42; refine hcl2.mono ?_; clear hcl2; rintro e a2 ⟨y2, rfl, b2, hs2, c2, ht2, hd2⟩; have HD := Lib.hid hd2; clear hd2)
  | (guard_target =~ wpList _ _ _ (_ :: _) _ _; refine wpList_store rfl 89 (.tmp 11) (.tmp 45) rfl (.pointer (some ⟨q11, 0, none⟩)) y2 rfl rfl hs2 ?_)
  | (guard_target =~ wpList _ _ _ (_ :: _) _ _; refine wpList_field rfl 27 (.tmp 9) 2 rfl (.pointer (some ⟨q9, 0, none⟩)) rfl fHop2 ?_)
  | (guard_target =~ wpList _ _ _ (_ :: _) _ _; refine wpList_store rfl 2 (.tmp 48) (.tmp 46) rfl (.pointer (some ⟨q9, 64, none⟩)) (.int .i64 (q2 b).2.1) rfl rfl ht2 ?_)
  | fail)
 obtain ⟨v3, hld3, hcl3⟩ := HD.out.exp 2147483647
 have hcl3 : Calls Tryz.prog 42 #[v3, .int .i64 2147483647] _ fun e w2 => ∃ v, e = .returned (.tuple #[v, .int .i64 (q3 b).2.1, .int .i64 (q3 b).2.2]) /\ ∃ w3, (Instr.storeAt 89 (.pointer (some ⟨q11, 0, none⟩)) v).run Tryz.prog w2 = .ok () w3 /\ ∃ w4, (Instr.storeAt 2 (.pointer (some ⟨q9, 65, none⟩)) (.int .i64 (q3 b).2.1)).run Tryz.prog w3 = .ok () w4 /\ DR W6 q9 q11 27 S b (q3 b).1 (hopD key b) w4 := hcl3
 clear HD
 obtain ⟨x3, hx3⟩ : ∃ x, (q3 b).2.1 = x := ⟨_, rfl⟩
 obtain ⟨e3, he3⟩ : ∃ x, (q3 b).2.2 = x := ⟨_, rfl⟩
 rw [he3] at hcl3
 clear hx3 he3
 go_upto_region 12 with (first
  | (guard_target =~ wpList _ _ _ (_ :: _) _ _; refine wpList_load rfl 89 (.tmp 11) rfl (.pointer (some ⟨q11, 0, none⟩)) rfl hld3 ?_)
  | (go_at_call 42; refine hcl3.mono ?_; clear hcl3; rintro e a3 ⟨y3, rfl, b3, hs3, c3, ht3, hd3⟩; have HD := Lib.hid hd3; clear hd3)
  | (guard_target =~ wpList _ _ _ (_ :: _) _ _; refine wpList_store rfl 89 (.tmp 11) (.tmp 52) rfl (.pointer (some ⟨q11, 0, none⟩)) y3 rfl rfl hs3 ?_)
  | (guard_target =~ wpList _ _ _ (_ :: _) _ _; refine wpList_field rfl 27 (.tmp 9) 3 rfl (.pointer (some ⟨q9, 0, none⟩)) rfl fHop3 ?_)
  | (guard_target =~ wpList _ _ _ (_ :: _) _ _; refine wpList_store rfl 2 (.tmp 55) (.tmp 53) rfl (.pointer (some ⟨q9, 65, none⟩)) (.int .i64 (q3 b).2.1) rfl rfl ht3 ?_)
  | fail)
 rename_i K12 hK12
 have HK12 := Lib.hid hK12
 clear hK12
 have hle4 := Nat.le_trans (textR_rest (q3 b).1.1 (q3 b).1.2 512) HD.out.len
 obtain ⟨v4, hld4, hcl4⟩ := HD.out.text 512 hle4
 obtain ⟨rest, hrest⟩ : ∃ l, (q4 b).2.1 = l := ⟨_, rfl⟩
 obtain ⟨e4, he4⟩ : ∃ x, (q4 b).2.2 = x := ⟨_, rfl⟩
 have hcl4 : Calls Tryz.prog 43 #[v4, .int .i64 512] c3 fun e w2 => ∃ v, e = .returned (.tuple #[v, .string ⟨rest.toArray⟩, .int .i64 e4]) /\ ∃ w3, (Instr.storeAt 89 (.pointer (some ⟨q11, 0, none⟩)) v).run Tryz.prog w2 = .ok () w3 /\ DR W6 q9 q11 27 S b (q4 b).1 (hopD key b) w3 := by rw [<- hrest, <- he4]; exact hcl4
 have HREST := Lib.hid hrest
 clear HD hle4 hrest he4
 go_wp2_with (first
  | (guard_target =~ wpList _ _ _ (_ :: _) _ _; refine wpList_load rfl 89 (.tmp 11) rfl (.pointer (some ⟨q11, 0, none⟩)) rfl hld4 ?_)
  | (go_at_call 43; refine hcl4.mono ?_; clear hcl4; rintro e a4 ⟨y4, rfl, b4, hs4, hd4⟩; have HD := Lib.hid hd4; clear hd4)
  | (guard_target =~ wpList _ _ _ (_ :: _) _ _; refine wpList_store rfl 89 (.tmp 11) (.tmp 59) rfl (.pointer (some ⟨q11, 0, none⟩)) y4 rfl rfl hs4 ?_)
  | fail)
 refine HK12.out _ _ ?_
 clear HK12
 refine wp_seq_k fun K13 hK13 => ?_
 obtain ⟨D, c0, hrow, -, -, -⟩ := HD.out.k10
 have k99 := HD.out.k9
 have low := HD.out.low
 have hwD := HD.out.hw
 have k29 := k26.belowAll low
 have k49 := k46.belowAll low
 have k79 := k76.belowAll low
 have hRS9 := hRS.below low
 have hb9 := hb6.trans (low.mono hb6.size)
 have hpl := HPL.out
 rw [HREST.out] at hpl
 refine refPeel_fin _ (by kernel_rfl) w _ key b rest tag hk htl (hopD key b) hwD g2 q q7 q9 q11 n cS c0 S D _ _ HBL.out (by omega) hSc hScm hRS9 k29 k49 k79 k99 hrow hb9 hqw _ (fun a' W' hd6 h4 h5 h6 hR LR => ?_) _ _ _ _ _ _ _ _ _ _ _ _ _ _ _ _ _ _ _ _ _ _ _ _ _ _ _ _ _ _ _ _ _ _ _ _ _ _ _ _ _ _ _ _ _ _ _ _ _ _ _ _ _ _ _ _ _ _ _ _ _ _ _ _ _ _ _ _ _ _ _ _ _ _ _ _ _ _ _ _ _ _ _ _ _ _ _ (fun hres v62 v63 v64 v65 v66 v67 v68 v69 v70 v71 v72 v73 v74 v75 v76 v77 v78 v79 v80 v81 v82 v83 v84 v85 v86 v87 v88 v89 v90 W9 hL9 => ?_)
 ·exact bodyPost_ret (results_ctt rfl _ _ q 27 (hopC (peel key s).1) _ _ _ h4 (by rw [hpl]; exact h5) (by rw [hpl]; exact h6) (by rw [hpl]; exact hR) Tryz.underlying27 rfl (by rw [hopC_size (peel_wf hk)]; exact infoHop)) hd6 (HΦ.out _ _ ⟨rfl, LR⟩)
 ·rw [hres] at hpl
  have hld9 := loadHopR hwD (k99.later hL9)
  obtain ⟨X2, hst, kst, hgst⟩ := storeHop noHop_wf hwD (k49.later hL9)
  have hb10 := hb9.trans (hL9.below.mono hb9.size)
  have hbst : Below w.heap.size w X2 := hb10.grown hgst hb10.size (fun j e => by cases e; exact hqw)
  clear hgst hres
  refine hK13 _ _ ?_
  clear hK13
  go_wp2_with (first
   | (guard_target =~ wpList _ _ _ (_ :: _) _ _; refine wpList_load rfl 27 (.tmp 9) rfl (.pointer (some ⟨q9, 0, none⟩)) rfl hld9 ?_)
   | (guard_target =~ wpList _ _ _ (_ :: _) _ _; refine wpList_store rfl 27 (.tmp 4) (.tmp 92) rfl (.pointer (some ⟨q, 0, none⟩)) (.agg (hopC (hopD key b))) rfl rfl hst ?_)
   | fail)
  exact bodyPost_ret (results_ctt rfl _ _ q 27 (hopC (hopD key b)) _ _ _ rfl rfl rfl kst Tryz.underlying27 rfl (by rw [hopC_size hwD]; exact infoHop)) rfl (HΦ.out _ _ ⟨by rw [hpl]; rfl, hbst⟩)
end Go.Proofs.YtloiaaolnfimgaaGreat
