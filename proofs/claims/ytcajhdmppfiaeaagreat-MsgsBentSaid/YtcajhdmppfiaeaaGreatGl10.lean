/- Walks, msgs: the document's Body, its steps. -/
import Derived.Test.YtcajhdmppfiaeaaGreatGl9
set_option linter.unusedVariables false
set_option linter.unusedSimpArgs false
namespace Go.Proofs.YtcajhdmppfiaeaaGreat
open Go.RowKit Ms
theorem getD_last {rs : List Value} {k : Nat} (h : rs.length = k + 1) (v0 : Value) : rs.getD k undef = rs.getLastD v0 := by
  rw [List.getLastD_eq_getLast?, List.getLast?_eq_getElem?, h, List.getD_eq_getElem?_getD, Nat.add_sub_cancel, List.getElem?_eq_getElem (by omega)]
  rfl
/-- The document's bytes as they grow. -/
structure BA (w : World) (g : Nat) (s : Said) (v0 : Value) (d : Nat) (rs : List Value) (W : World) : Prop where
  low : Below (g + 1) w W
  src : Row W g 29 (saidC s)
  own : Own 5 W (g + 1) (rs.getLastD v0) (Wr.bytes s.kind.toNat ++ Ms.laid ((flds s.kind).take (d + rs.length)) s)
  sz : g + 1 ≤ W.heap.size
section
variable {w W W' : World} {g d : Nat} {s : Said} {v0 : Value} {rs : List Value}
theorem BA.later (h : BA w g s v0 d rs W) (hL : Later W W') : BA w g s v0 d rs W' := ⟨h.low.trans (hL.below.mono h.sz), h.src.later hL, h.own.later hL, Nat.le_trans h.sz hL.size⟩
theorem BA.step (h : BA w g s v0 d rs W) {f : Fld} (hf : (flds s.kind)[d + rs.length]? = some f) {v : Value} (hown : Own 5 W' (g + 1) v ((Wr.bytes s.kind.toNat ++ Ms.laid ((flds s.kind).take (d + rs.length)) s) ++ lay s f)) (hb : Below (g + 1) W W') : BA w g s v0 d (rs ++ [v]) W' := by
  refine ⟨h.low.trans hb, h.src.below (hb.mono (Nat.le_refl _)) (Nat.lt_succ_self g), ?_, Nat.le_trans h.sz hb.size⟩
  obtain ⟨hlt, he⟩ := List.getElem?_eq_some_iff.1 hf
  rw [List.getLastD_concat, List.length_append, List.length_singleton, ← Nat.add_assoc, List.take_succ_eq_append_getElem hlt, he, laid_snoc, ← List.append_assoc]
  exact hown
theorem BA.len (h : BA w g s v0 d rs W) (hs : s.wf) (hr : s.route.length ≤ 512) : (Wr.bytes s.kind.toNat ++ Ms.laid ((flds s.kind).take (d + rs.length)) s).length ≤ 10000 := by
  have h1 := Wr.bytes_le s.kind.toNat
  have h2 := laid_le hs hr ((flds s.kind).take (d + rs.length)) (fun f hf => flds_hash s.kind f (List.mem_of_mem_take hf))
  have h3 := flds_len s.kind
  rw [List.length_take] at h2
  rw [List.length_append]
  omega
theorem ba_num (hs : s.wf) (hr : s.route.length ≤ 512) (hok : ∀ f ∈ flds s.kind, layOk s f) (h : BA w g s v0 d rs W) (j : Nat) (m : Int) (hf : (flds s.kind)[d + rs.length]? = some (.num j m)) :
    Calls Tryz.prog 36 #[rs.getLastD v0, .int .i64 (s.n j)] W fun e W' => ∃ v, e = .returned v ∧ BA w g s v0 d (rs ++ [v]) W' := by
  obtain ⟨h0, h1⟩ : 0 ≤ s.n j ∧ s.n j ≤ 4611686018427387904 := hok _ (List.mem_of_getElem? hf)
  have hl := h.len hs hr
  have hc := refNumA_any _ _ (g + 1) (s.n j).toNat W h.own h.sz (by omega) (by omega)
  rw [Int.toNat_of_nonneg h0] at hc
  exact hc.mono fun e W' ⟨v, he, ho, hb⟩ => ⟨v, he, h.step hf ho hb⟩
theorem ba_hash (hs : s.wf) (hr : s.route.length ≤ 512) (h : BA w g s v0 d rs W) (j : Nat) (hj : j < 9) (hf : (flds s.kind)[d + rs.length]? = some (.hash j)) :
    Calls Tryz.prog 37 #[rs.getLastD v0, .agg (hC (s.h j))] W fun e W' => ∃ v, e = .returned v ∧ BA w g s v0 d (rs ++ [v]) W' := by
  have hl := h.len hs hr
  exact (refHashA_any _ _ (s.h j) (g + 1) W h.own h.sz (hs j hj) (by omega)).mono fun e W' ⟨v, he, ho, hb⟩ => ⟨v, he, h.step hf ho hb⟩
/-- As the route is laid: first its own bytes, then all. -/
def BR (w : World) (g : Nat) (s : Said) (v0 : Value) (n : Nat) (rs : List Value) (W : World) : Prop :=
  (rs.length ≤ n → BA w g s v0 0 rs W) ∧ (rs.length = n + 1 → ∃ r0 A c, rs = r0 ++ [.slice A (lay s .route).length c] ∧ BA w g s v0 0 r0 W ∧ Rd W A (lay s .route)) ∧ (rs.length = n + 2 → ∃ r0 x v, rs = r0 ++ [x] ++ [v] ∧ BA w g s v0 0 (r0 ++ [v]) W) ∧ Row W g 29 (saidC s)
theorem BR.later {n : Nat} (h : BR w g s v0 n rs W) (hL : Later W W') : BR w g s v0 n rs W' :=
  ⟨fun e => (h.1 e).later hL, fun e => by obtain ⟨r0, A, c, e1, h1, h2⟩ := h.2.1 e; exact ⟨r0, A, c, e1, h1.later hL, h2.later hL⟩, fun e => by obtain ⟨r0, x, v, e1, h1⟩ := h.2.2.1 e; exact ⟨r0, x, v, e1, h1.later hL⟩, h.2.2.2.later hL⟩
theorem BR.of {n : Nat} (h : BA w g s v0 0 rs W) (hn : rs.length ≤ n) : BR w g s v0 n rs W := ⟨fun _ => h, fun e => by omega, fun e => by omega, h.src⟩
theorem br_text (hr : s.route.length ≤ 512) {n : Nat} (h : BR w g s v0 n rs W) (hn : rs.length = n) :
    Calls Tryz.prog 38 #[.string ⟨s.route.toArray⟩] W fun e W' => ∃ v, e = .returned v ∧ BR w g s v0 n (rs ++ [v]) W' :=
  (refText_any s.route W (by omega)).mono fun e W' ⟨v, he, ho, hL⟩ => by
    obtain ⟨A, c, rfl, _, _, hrd⟩ := ho.slice
    exact ⟨_, he, fun e2 => by simp at e2; omega, fun _ => ⟨rs, A, c, rfl, (h.1 (by omega)).later hL, hrd⟩, fun e2 => by simp at e2; omega, h.2.2.2.later hL⟩
theorem BR.done {n : Nat} (h : BR w g s v0 n rs W) (hn : rs.length = n + 2) : ∃ r0 x v, rs = r0 ++ [x] ++ [v] ∧ BA w g s v0 0 (r0 ++ [v]) W := h.2.2.1 hn
end
end Go.Proofs.YtcajhdmppfiaeaaGreat
