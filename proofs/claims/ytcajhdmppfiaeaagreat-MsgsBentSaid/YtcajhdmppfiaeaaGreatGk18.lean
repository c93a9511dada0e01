/- Walks, msgs: Body. -/
import Derived.Test.YtcajhdmppfiaeaaGreatGk17
set_option linter.unusedVariables false
set_option linter.unusedSimpArgs false
namespace Go.Proofs.YtcajhdmppfiaeaaGreat
open Go.RowKit Ms
def Pr.fsl (k : Int) : Pr := ⟨fun v W => ∃ A, v = .slice A (flds k).length (flds k).length ∧ RdP W A (flds k), fun _ _ _ ⟨A, e, h⟩ hL => ⟨A, e, h.m hL.m⟩⟩
theorem fieldKind2 (k : Int) (A : Option Addr) (W : World) : (Instr.field 71 (kindV k A) 2).run Tryz.prog W = .ok (.slice A (flds k).length (flds k).length) W := by
  unfold kindV
  generalize flds k = fs
  generalize kName k = nm
  cases isKind k <;> kernel_rfl
namespace Ms
def rts : Fld → Bool
  | .route => true
  | _ => false
def okF : Fld → Bool
  | .hash j => okH j
  | .num j m => decide (1 ≤ j) && decide (j ≤ 11) && decide (0 ≤ m)
  | .route => true
theorem flds_ok (k : Int) : (flds k).all okF = true ∧ (k ≠ 6 → (flds k).any rts = false) := by
  by_cases h1 : k = 1
  · subst h1; exact ⟨by decide, by decide⟩
  by_cases h2 : k = 2
  · subst h2; exact ⟨by decide, by decide⟩
  by_cases h3 : k = 3
  · subst h3; exact ⟨by decide, by decide⟩
  by_cases h4 : k = 4
  · subst h4; exact ⟨by decide, by decide⟩
  by_cases h6 : k = 6
  · subst h6; exact ⟨by decide, by intro h; exact absurd rfl h⟩
  by_cases h7 : k = 7
  · subst h7; exact ⟨by decide, by decide⟩
  by_cases h8 : k = 8
  · subst h8; exact ⟨by decide, by decide⟩
  by_cases h9 : k = 9
  · subst h9; exact ⟨by decide, by decide⟩
  by_cases h10 : k = 10
  · subst h10; exact ⟨by decide, by decide⟩
  by_cases h11 : k = 11
  · subst h11; exact ⟨by decide, by decide⟩
  by_cases h13 : k = 13
  · subst h13; exact ⟨by decide, by decide⟩
  by_cases h14 : k = 14
  · subst h14; exact ⟨by decide, by decide⟩
  have e : flds k = [] := by
    unfold flds
    rw [if_neg h1, if_neg h2, if_neg h3, if_neg h4, if_neg h6, if_neg h7, if_neg h8, if_neg h9, if_neg h10, if_neg h11, if_neg h13, if_neg h14]
  rw [e]
  exact ⟨rfl, fun _ => rfl⟩
theorem flds_hash (k : Int) : ∀ f ∈ flds k, ∀ j, f = .hash j → j < 9 := fun f hf j e => by
  have := List.all_eq_true.1 (flds_ok k).1 f hf
  subst e
  exact okH_lt this
theorem laid_snoc (l : List Fld) (f : Fld) (s : Said) : laid (l ++ [f]) s = laid l s ++ lay s f := by simp [laid]
theorem lay_le {s : Said} (hs : s.wf) {f : Fld} (hr : s.route.length ≤ 512) (hj : ∀ j, f = .hash j → j < 9) : (lay s f).length ≤ 521 := by
  cases f with
  | num j m => have := Wr.bytes_le (s.n j).toNat; simp only [lay]; omega
  | hash j => have := hs j (hj j rfl); simp only [lay]; omega
  | route => have := Wr.bytes_le s.route.length; simp only [lay, List.length_append]; omega
theorem laid_le {s : Said} (hs : s.wf) (hr : s.route.length ≤ 512) : ∀ l : List Fld, (∀ f ∈ l, ∀ j, f = .hash j → j < 9) → (laid l s).length ≤ 521 * l.length
  | [], _ => by simp [laid]
  | f :: l, h => by
    have h1 := lay_le hs hr (h f List.mem_cons_self)
    have h2 := laid_le hs hr l fun g hg => h g (List.mem_cons_of_mem _ hg)
    unfold laid at *
    simp only [List.map_cons, List.flatten_cons, List.length_append, List.length_cons]
    omega
theorem right_route {s : Said} (h : Ms.right s = true) : s.route.length ≤ 512 := by
  obtain ⟨⟨h1, h2⟩, hz, _, _, _, _, _, hsp⟩ := right_facts h
  by_cases h6 : s.kind = 6
  · exact special_6 h6 hsp
  · have hr : (zeroed (flds s.kind) s).route = s.route := by
      have key : ∀ (l : List Fld) (s : Said), Fld.route ∉ l → (zeroed l s).route = s.route := by
        intro l
        induction l with
        | nil => intro s _; rfl
        | cons f l ih =>
          intro s hf
          show (zeroed l (zero1 s f)).route = s.route
          rw [ih _ (fun h => hf (List.mem_cons_of_mem _ h))]
          cases f with
          | num j m => rcases j with _ | _ | _ | _ | _ | _ | _ | _ | _ | _ | _ | _ | j <;> rfl
          | hash j => rcases j with _ | _ | _ | _ | _ | _ | _ | _ | _ | j <;> rfl
          | route => exact absurd List.mem_cons_self hf
      refine key _ s ?_
      intro hm
      have := (flds_ok s.kind).2 h6
      rw [List.any_eq_false] at this
      exact this _ hm rfl
    rw [hz] at hr
    rw [← hr]
    exact Nat.zero_le _
end Ms
theorem mbody_no (s : Said) (hs : s.wf) (hm : s.route.length ≤ 9223372036854775807) (w : World) (hr : Ms.right s = false) : Calls Tryz.prog 10 #[.agg (saidC s)] w fun e w' => e = .returned (.tuple #[.slice none 0 0, .int .i64 2]) ∧ Below w.heap.size w w' := by
  have k1 := Row.new w 29 (saidC s)
  have hb := below_new w (.cells (saidC s) 29)
  have hbx := boxSaid hs w
  have he : bodyE s = 2 := by unfold bodyE; rw [hr]; rfl
  go_enter Tryz.func10, Tryz.ntmps10
  go_upto_region 1 with fail
  obtain ⟨g, hg⟩ : ∃ q, q = w.heap.size := ⟨_, rfl⟩
  rw [← hg] at k1 ⊢
  clear hbx hg
  generalize w.alloc (.cells (saidC s) 29) = w1 at *
  have hld := loadSaid hs k1
  have hck := mcheck_any s hs hm w1
  rw [he] at hck
  have HB := Lib.hid hb
  clear hb he hr k1
  refine wp_region_lit ?_
  refine wpList_load rfl 29 (.tmp 1) rfl (.pointer (some ⟨g, 0, none⟩)) rfl hld ?_
  go_wp2_with (first
    | (go_at_call 13; refine hck.mono ?_; clear hck; rintro e w2 ⟨rfl, hL2⟩)
    | fail)
  go_ret2
  exact ⟨rfl, HB.out.trans (hL2.below.mono HB.out.size)⟩
end Go.Proofs.YtcajhdmppfiaeaaGreat
