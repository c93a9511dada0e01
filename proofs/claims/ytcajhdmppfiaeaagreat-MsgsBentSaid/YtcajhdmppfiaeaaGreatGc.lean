/- What is said, in memory. -/
import Derived.Test.YtcajhdmppfiaeaaGreatGm
set_option linter.unusedVariables false
set_option linter.unusedSimpArgs false
namespace Go.Proofs.YtcajhdmppfiaeaaGreat
open Go.RowKit
namespace Ms
inductive Seg where
  | kind
  | num (j : Nat)
  | hash (j : Nat)
  | route
deriving DecidableEq
def segC (s : Said) : Seg → List Value
  | .kind => [.int .i64 s.kind]
  | .num j => [.int .i64 (s.n j)]
  | .hash j => (hC (s.h j)).toList
  | .route => [.string ⟨s.route.toArray⟩]
def segLen : Seg → Nat
  | .hash _ => 32
  | _ => 1
def segs : List Seg := [.kind, .hash 0, .num 0, .num 1, .num 2, .num 3, .num 4, .hash 1, .hash 2, .num 5, .num 6, .hash 3, .hash 4, .hash 5, .hash 6, .hash 7, .hash 8, .num 7, .num 8, .num 9, .num 10, .num 11, .route]
def flat (s : Said) (l : List Seg) : List Value := (l.map (segC s)).flatten
def offs : List Seg → Seg → Nat
  | [], _ => 0
  | x :: l, g => if x = g then 0 else segLen x + offs l g
theorem hash_lt : ∀ g ∈ segs, ∀ j, g = .hash j → j < 9 := by
  intro g hg j e
  subst e
  simp [segs] at hg
  omega
theorem seg_len {s : Said} (h : s.wf) (g : Seg) (hg : ∀ j, g = .hash j → j < 9) : (segC s g).length = segLen g := by
  cases g
  case hash j => simp only [segC, segLen, Array.length_toList]; exact hC_size _ (Nat.le_of_eq (h j (hg j rfl)))
  all_goals rfl
theorem flat_len {s : Said} (h : s.wf) : ∀ l : List Seg, (∀ g ∈ l, ∀ j, g = .hash j → j < 9) → (flat s l).length = (l.map segLen).sum
  | [], _ => rfl
  | g :: l, hl => by
    have ih := flat_len h l (fun g hg => hl g (List.mem_cons_of_mem _ hg))
    unfold flat at *
    rw [List.map_cons, List.flatten_cons, List.length_append, seg_len h g (hl g List.mem_cons_self), ih, List.map_cons, List.sum_cons]
theorem flat_split {s : Said} (h : s.wf) (g : Seg) : ∀ l : List Seg, g ∈ l → (∀ g ∈ l, ∀ j, g = .hash j → j < 9) → ∃ pre post, l = pre ++ g :: post ∧ g ∉ pre ∧ (flat s pre).length = offs l g
  | [], hg, _ => by cases hg
  | x :: l, hg, hl => by
    by_cases e : x = g
    · subst e
      exact ⟨[], l, rfl, by simp, by simp [flat, offs]⟩
    · obtain ⟨pre, post, h1, h2, h3⟩ := flat_split h g l (by
        rcases List.mem_cons.1 hg with h | h
        · exact absurd h.symm e
        · exact h) (fun g hg => hl g (List.mem_cons_of_mem _ hg))
      refine ⟨x :: pre, post, by rw [h1]; rfl, ?_, ?_⟩
      · intro hm
        rcases List.mem_cons.1 hm with h | h
        · exact e h.symm
        · exact h2 h
      · unfold flat at *
        rw [List.map_cons, List.flatten_cons, List.length_append, seg_len h x (hl x List.mem_cons_self), h3]
        simp [offs, e]
theorem flat_congr {s s' : Said} : ∀ l : List Seg, (∀ g ∈ l, segC s' g = segC s g) → flat s' l = flat s l
  | [], _ => rfl
  | g :: l, h => by
    have ih := flat_congr l (fun g hg => h g (List.mem_cons_of_mem _ hg))
    unfold flat at *
    rw [List.map_cons, List.flatten_cons, List.map_cons, List.flatten_cons, ih, h g List.mem_cons_self]
def saidC (s : Said) : Array Value := (flat s segs).toArray
theorem saidC_size {s : Said} (h : s.wf) : (saidC s).size = 302 := by
  unfold saidC
  rw [List.size_toArray, flat_len h segs hash_lt]
  rfl
theorem segs_nodup : segs.Nodup := by decide
theorem said_seg {s : Said} (h : s.wf) (g : Seg) (hg : g ∈ segs) (i : Nat) (hi : i < segLen g) : (saidC s)[offs segs g + i]? = (segC s g)[i]? := by
  obtain ⟨pre, post, h1, h2, h3⟩ := flat_split h g segs hg hash_lt
  have hl := seg_len h g (hash_lt g hg)
  rw [← h3]
  unfold saidC
  rw [List.getElem?_toArray, h1]
  unfold flat
  rw [List.map_append, List.flatten_append, List.map_cons, List.flatten_cons, List.getElem?_append_right (Nat.le_add_right _ _), Nat.add_sub_cancel_left, List.getElem?_append_left (by omega)]
theorem said_put {s s' : Said} (h : s.wf) (h' : s'.wf) (g : Seg) (hg : g ∈ segs) (ho : ∀ g' ∈ segs, g' ≠ g → segC s' g' = segC s g') : setFrom (saidC s) (offs segs g) (segC s' g) = saidC s' := by
  obtain ⟨pre, post, h1, h2, h3⟩ := flat_split h g segs hg hash_lt
  have hl := seg_len h g (hash_lt g hg)
  have hl' := seg_len h' g (hash_lt g hg)
  have hnp : g ∉ post := by
    have := segs_nodup
    rw [h1, List.nodup_append] at this
    exact (List.nodup_cons.1 this.2.1).1
  have e1 : flat s' pre = flat s pre := flat_congr pre fun x hx => ho x (by rw [h1]; exact List.mem_append_left _ hx) (fun e => h2 (e ▸ hx))
  have e2 : flat s' post = flat s post := flat_congr post fun x hx => ho x (by rw [h1]; exact List.mem_append_right _ (List.mem_cons_of_mem _ hx)) (fun e => hnp (e ▸ hx))
  have e3 : ∀ s : Said, flat s segs = flat s pre ++ (segC s g ++ flat s post) := fun s => by
    rw [h1]
    unfold flat
    rw [List.map_append, List.flatten_append, List.map_cons, List.flatten_cons]
  unfold saidC
  rw [e3 s, e3 s', e1, e2]
  exact setFrom_mid _ _ _ _ _ h3 (by rw [hl, hl'])
theorem set1 (cs : Array Value) (o : Nat) (v : Value) : setFrom cs o [v] = cs.setIfInBounds o v := rfl
theorem segN (s : Said) (j : Nat) (v : Int) (hj : j < 12) : segC (s.setN j v) (.num j) = [.int .i64 v] := by
  rcases j with _ | _ | _ | _ | _ | _ | _ | _ | _ | _ | _ | _ | j
  all_goals first | rfl | omega
theorem segN_o (s : Said) (j : Nat) (v : Int) (hj : j < 12) : ∀ g' ∈ segs, g' ≠ .num j → segC (s.setN j v) g' = segC s g' := by
  intro g' hg hne
  rcases j with _ | _ | _ | _ | _ | _ | _ | _ | _ | _ | _ | _ | j
  all_goals first | omega | skip
  all_goals
    simp only [segs, List.mem_cons, List.not_mem_nil, or_false] at hg
    rcases hg with rfl | rfl | rfl | rfl | rfl | rfl | rfl | rfl | rfl | rfl | rfl | rfl | rfl | rfl | rfl | rfl | rfl | rfl | rfl | rfl | rfl | rfl | rfl
    all_goals first | rfl | exact absurd rfl hne
theorem segH (s : Said) (j : Nat) (v : List UInt8) (hj : j < 9) : segC (s.setH j v) (.hash j) = (hC v).toList := by
  rcases j with _ | _ | _ | _ | _ | _ | _ | _ | _ | j
  all_goals first | rfl | omega
theorem segH_o (s : Said) (j : Nat) (v : List UInt8) (hj : j < 9) : ∀ g' ∈ segs, g' ≠ .hash j → segC (s.setH j v) g' = segC s g' := by
  intro g' hg hne
  rcases j with _ | _ | _ | _ | _ | _ | _ | _ | _ | j
  all_goals first | omega | skip
  all_goals
    simp only [segs, List.mem_cons, List.not_mem_nil, or_false] at hg
    rcases hg with rfl | rfl | rfl | rfl | rfl | rfl | rfl | rfl | rfl | rfl | rfl | rfl | rfl | rfl | rfl | rfl | rfl | rfl | rfl | rfl | rfl | rfl | rfl
    all_goals first | rfl | exact absurd rfl hne
theorem segR_o (s : Said) (v : List UInt8) : ∀ g' ∈ segs, g' ≠ .route → segC (s.setR v) g' = segC s g' := by
  intro g' hg hne
  simp only [segs, List.mem_cons, List.not_mem_nil, or_false] at hg
  rcases hg with rfl | rfl | rfl | rfl | rfl | rfl | rfl | rfl | rfl | rfl | rfl | rfl | rfl | rfl | rfl | rfl | rfl | rfl | rfl | rfl | rfl | rfl | rfl
  all_goals first | rfl | exact absurd rfl hne
/-- Where the numbers, the hashes lie. -/
def offN (j : Nat) : Nat := [33, 34, 35, 36, 37, 102, 103, 296, 297, 298, 299, 300].getD j 0
def offH (j : Nat) : Nat := [1, 38, 70, 104, 136, 168, 200, 232, 264].getD j 0
theorem offN_eq : ∀ j, j < 12 → offs segs (.num j) = offN j ∧ (Seg.num j) ∈ segs := by decide
theorem offH_eq : ∀ j, j < 9 → offs segs (.hash j) = offH j ∧ (Seg.hash j) ∈ segs := by decide
theorem offR_eq : offs segs .route = 301 ∧ Seg.route ∈ segs := by decide
theorem offK_eq : offs segs .kind = 0 ∧ Seg.kind ∈ segs := by decide
theorem saidC_n {s : Said} (h : s.wf) (j : Nat) (hj : j < 12) : (saidC s)[offN j]? = some (.int .i64 (s.n j)) := by
  obtain ⟨e, hm⟩ := offN_eq j hj
  have := said_seg h _ hm 0 Nat.zero_lt_one
  rwa [e] at this
theorem saidC_kind {s : Said} (h : s.wf) : (saidC s)[0]? = some (.int .i64 s.kind) := said_seg h _ offK_eq.2 0 (by decide)
theorem saidC_route {s : Said} (h : s.wf) : (saidC s)[301]? = some (.string ⟨s.route.toArray⟩) := by
  have := said_seg h _ offR_eq.2 0 (by decide)
  rwa [offR_eq.1] at this
theorem saidC_h {s : Said} (h : s.wf) (j : Nat) (hj : j < 9) (i : Nat) (hi : i < 32) : (saidC s)[offH j + i]? = (hC (s.h j))[i]? := by
  obtain ⟨e, hm⟩ := offH_eq j hj
  have := said_seg h _ hm i hi
  rw [e] at this
  rw [this, segC, Array.getElem?_toList]
theorem saidC_setN {s : Said} (h : s.wf) (j : Nat) (hj : j < 12) (v : Int) : (saidC s).setIfInBounds (offN j) (.int .i64 v) = saidC (s.setN j v) := by
  obtain ⟨e, hm⟩ := offN_eq j hj
  have := said_put h (Said.setN_wf h j v) _ hm (segN_o s j v hj)
  rw [segN s j v hj, e, set1] at this
  exact this
theorem saidC_setR {s : Said} (h : s.wf) (v : List UInt8) : (saidC s).setIfInBounds 301 (.string ⟨v.toArray⟩) = saidC (s.setR v) := by
  have := said_put h (Said.setR_wf h v) _ offR_eq.2 (segR_o s v)
  rw [offR_eq.1] at this
  exact this
theorem saidC_setK {s : Said} (h : s.wf) (k : Int) : (saidC s).setIfInBounds 0 (.int .i64 k) = saidC { s with kind := k } := by
  have := said_put h (s' := { s with kind := k }) (fun j hj => h j hj) .kind offK_eq.2 (fun g' hg hne => by
    simp only [segs, List.mem_cons, List.not_mem_nil, or_false] at hg
    rcases hg with rfl | rfl | rfl | rfl | rfl | rfl | rfl | rfl | rfl | rfl | rfl | rfl | rfl | rfl | rfl | rfl | rfl | rfl | rfl | rfl | rfl | rfl | rfl
    all_goals first | rfl | exact absurd rfl hne)
  rw [offK_eq.1] at this
  exact this
theorem saidC_setH {s : Said} (h : s.wf) (j : Nat) (hj : j < 9) (v : List UInt8) (hv : v.length = 32) : setFrom (saidC s) (offH j) (hC v).toList = saidC (s.setH j v) := by
  obtain ⟨e, hm⟩ := offH_eq j hj
  have := said_put h (Said.setH_wf h j v hv) _ hm (segH_o s j v hj)
  rw [segH s j v hj, e] at this
  exact this
theorem saidC_one (s : Said) : (saidC s).all (·.oneCell') = true := by
  rw [Array.all_eq_true_iff_forall_mem]
  intro v hv
  unfold saidC flat at hv
  rw [List.mem_toArray, List.mem_flatten] at hv
  obtain ⟨l, hl, hv⟩ := hv
  obtain ⟨g, _, rfl⟩ := List.mem_map.1 hl
  cases g with
  | hash j => exact Array.all_eq_true_iff_forall_mem.1 (hC_one (s.h j)) _ (Array.mem_toList_iff.1 hv)
  | kind => simp only [segC, List.mem_singleton] at hv; subst hv; rfl
  | num j => simp only [segC, List.mem_singleton] at hv; subst hv; rfl
  | route => simp only [segC, List.mem_singleton] at hv; subst hv; rfl
theorem hC_pad (l : List UInt8) (h : l = [] ∨ l.length = 32) : hC (pad32 l) = hC l := by
  unfold pad32
  rcases h with rfl | h
  · rw [if_neg (by simp)]
    simp [hC, z32, Sha.zeros]
  · rw [if_pos h]
theorem pad32_len (l : List UInt8) : (pad32 l).length = 32 := by
  unfold pad32
  split
  · assumption
  · exact z32_len
end Ms
open Ms
theorem infoSaid : (Tryz.prog.info? 29).map (·.size) = some 302 := by kernel_rfl
section
variable {w : World} {g : Nat} {s : Said}
theorem allocSaid (w : World) : (Instr.alloc 29 true (.tuple #[])).run Tryz.prog w = .ok (.pointer (some ⟨w.heap.size, 0, none⟩)) (w.alloc (.cells (saidC (Ms.blank 0)) 29)) := by kernel_rfl
theorem boxSaid (h : s.wf) (w : World) : (Instr.box 29 (.agg (saidC s))).run Tryz.prog w = .ok (.pointer (some ⟨w.heap.size, 0, none⟩)) (w.alloc (.cells (saidC s) 29)) := by
  have hs := saidC_size h
  go_simp
theorem loadSaid (h : s.wf) (hr : Row w g 29 (saidC s)) : (Instr.loadAt 29 (.pointer (some ⟨g, 0, none⟩))).run Tryz.prog w = .ok (.agg (saidC s)) w :=
  run_load_row hr Tryz.underlying29 rfl (by rw [saidC_size h]; exact infoSaid)
theorem storeSaid {s' : Said} (h : s.wf) (h' : s'.wf) (hr : Row w g 29 (saidC s)) : ∃ w', (Instr.storeAt 29 (.pointer (some ⟨g, 0, none⟩)) (.agg (saidC s'))).run Tryz.prog w = .ok () w' ∧ Row w' g 29 (saidC s') ∧ w.grownBy w' (some g) := by
  have h1 := saidC_size h
  have h2 := saidC_size h'
  refine ⟨_, run_store_row hr (saidC s') (by rw [h2]; exact infoSaid) (by rw [h1, h2]; decide) (saidC_one _), ?_, grown_setCells _ _ _⟩
  have hr2 := row_setCells (saidC s').toList 0 w _ hr
  rw [setFrom_whole _ _ (by rw [Array.length_toList, h1, h2]), Array.toArray_toList] at hr2
  exact hr2
theorem loadSaidN (h : s.wf) (hr : Row w g 29 (saidC s)) (j : Nat) (hj : j < 12) : (Instr.loadAt 2 (.pointer (some ⟨g, offN j, none⟩))).run Tryz.prog w = .ok (.int .i64 (s.n j)) w := by
  have hc : w.cell? ⟨g, offN j, none⟩ = some (.int .i64 (s.n j)) := (hr.cell _).trans (saidC_n h j hj)
  go_simp
theorem storeSaidN (h : s.wf) (hr : Row w g 29 (saidC s)) (j : Nat) (hj : j < 12) (v : Int) : (Instr.storeAt 2 (.pointer (some ⟨g, offN j, none⟩)) (.int .i64 v)).run Tryz.prog w = .ok () (w.setCell ⟨g, offN j, none⟩ (.int .i64 v)) ∧ Row (w.setCell ⟨g, offN j, none⟩ (.int .i64 v)) g 29 (saidC (s.setN j v)) := by
  have hc : w.cell? ⟨g, offN j, none⟩ = some (.int .i64 (s.n j)) := (hr.cell _).trans (saidC_n h j hj)
  have hf : w.frozen? ⟨g, offN j, none⟩ = false := hr.frozen _
  refine ⟨by go_simp, ?_⟩
  have := hr.set (offN j) (.int .i64 v)
  rwa [saidC_setN h j hj v] at this
theorem loadSaidH (h : s.wf) (hr : Row w g 29 (saidC s)) (j : Nat) (hj : j < 9) : (Instr.loadAt 24 (.pointer (some ⟨g, offH j, none⟩))).run Tryz.prog w = .ok (.agg (hC (s.h j))) w := by
  have hz := hC_size _ (Nat.le_of_eq (h j hj))
  exact run_load_part hr (fun i hi => saidC_h h j hj i (by omega)) Tryz.underlying24 rfl (by rw [hz]; exact infoH)
theorem offH_le : ∀ j, j < 9 → offH j + 32 ≤ 302 := by decide
theorem storeSaidH (h : s.wf) (hr : Row w g 29 (saidC s)) (j : Nat) (hj : j < 9) (v : List UInt8) (hv : v.length = 32) : ∃ w', (Instr.storeAt 24 (.pointer (some ⟨g, offH j, none⟩)) (.agg (hC v))).run Tryz.prog w = .ok () w' ∧ Row w' g 29 (saidC (s.setH j v)) ∧ w.grownBy w' (some g) := by
  have hz := hC_size v (Nat.le_of_eq hv)
  refine ⟨_, run_store_row hr (hC v) (by rw [hz]; exact infoH) (by rw [hz, saidC_size h]; exact offH_le j hj) (hC_one v), ?_, grown_setCells _ _ _⟩
  have h2 := row_setCells (hC v).toList (offH j) w _ hr
  rw [saidC_setH h j hj v hv] at h2
  exact h2
theorem loadSaidR (h : s.wf) (hr : Row w g 29 (saidC s)) : (Instr.loadAt 9 (.pointer (some ⟨g, 301, none⟩))).run Tryz.prog w = .ok (.string ⟨s.route.toArray⟩) w := by
  have hc : w.cell? ⟨g, 301, none⟩ = some (.string ⟨s.route.toArray⟩) := (hr.cell _).trans (saidC_route h)
  go_simp
theorem storeSaidR (h : s.wf) (hr : Row w g 29 (saidC s)) (v : List UInt8) : (Instr.storeAt 9 (.pointer (some ⟨g, 301, none⟩)) (.string ⟨v.toArray⟩)).run Tryz.prog w = .ok () (w.setCell ⟨g, 301, none⟩ (.string ⟨v.toArray⟩)) ∧ Row (w.setCell ⟨g, 301, none⟩ (.string ⟨v.toArray⟩)) g 29 (saidC (s.setR v)) := by
  have hc : w.cell? ⟨g, 301, none⟩ = some (.string ⟨s.route.toArray⟩) := (hr.cell _).trans (saidC_route h)
  have hf : w.frozen? ⟨g, 301, none⟩ = false := hr.frozen _
  refine ⟨by go_simp, ?_⟩
  have := hr.set 301 (.string ⟨v.toArray⟩)
  rwa [saidC_setR h v] at this
end
end Go.Proofs.YtcajhdmppfiaeaaGreat
