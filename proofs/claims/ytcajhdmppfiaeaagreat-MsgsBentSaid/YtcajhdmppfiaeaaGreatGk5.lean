/- Walks, msgs: a part lets go, is laid, is taken. -/
import Derived.Test.YtcajhdmppfiaeaaGreatGk4
set_option linter.unusedVariables false
set_option linter.unusedSimpArgs false
namespace Go.Proofs.YtcajhdmppfiaeaaGreat
open Go.RowKit Ms
theorem buildZ (w : World) : (Instr.build 24 #[]).run Tryz.prog w = .ok (.agg (hC z32)) w := by kernel_rfl
set_option maxRecDepth 100000 in
theorem zeroN_any (g j bt : Nat) (s : Said) (w : World) (hs : s.wf) (h1 : 1 ≤ j) (h2 : j ≤ 11) (hr : Row w g 29 (saidC s)) (hb : Row w bt 128 #[.func (.func (nFn j)) #[] #[]]) :
    Calls Tryz.prog 115 #[.pointer (some ⟨g, 0, none⟩), .pointer (some ⟨bt, 0, none⟩)] w fun e w' => e = .returned (.tuple #[]) ∧ Row w' g 29 (saidC (s.setN j 0)) ∧ w.grownBy w' (some g) := by
  have c1 : w.cell? ⟨bt, 0, none⟩ = some (.func (.func (nFn j)) #[] #[]) := (hb.cell 0).trans rfl
  obtain ⟨hst, hr2⟩ := storeSaidN hs hr j (by omega) 0
  have hg := grown_set w g (offN j) (.int .i64 0)
  have hc := nfn_any g j w h1 h2
  have HR := Lib.hid hr2
  have HG := Lib.hid hg
  clear hr2 hg hr hb
  go_enter Tryz.func115, Tryz.ntmps115
  go_wp2_with (first
    | (guard_target =~ wpList _ _ _ (_ :: _) _ _; refine wpList_callV rfl (.tmp 3) #[.tmp 4] _ rfl (f := nFn j) (bound := #[]) (vs := #[.pointer (some ⟨g, 0, none⟩)]) rfl (by simp only [List.map_toArray, List.map_cons, List.map_nil]; rfl) (nfn_enters j) rfl ?_; refine hc.mono ?_; clear hc; rintro e w1 ⟨rfl, hw1⟩; refine .inl ⟨_, rfl, ?_⟩; subst hw1)
    | (guard_target =~ wpList _ _ _ (_ :: _) _ _; refine wpList_store rfl 2 (.tmp 6) (.const (.int .i64 0)) rfl _ _ rfl rfl hst ?_)
    | fail)
  go_end0
  exact ⟨rfl, HR.out, HG.out⟩
set_option maxRecDepth 100000 in
theorem zeroH_any (g j bt : Nat) (s : Said) (w : World) (hs : s.wf) (hj : okH j = true) (hr : Row w g 29 (saidC s)) (hb : Row w bt 131 #[.func (.func (hFn j)) #[] #[]]) :
    Calls Tryz.prog 120 #[.pointer (some ⟨g, 0, none⟩), .pointer (some ⟨bt, 0, none⟩)] w fun e w' => e = .returned (.tuple #[]) ∧ Row w' g 29 (saidC (s.setH j z32)) ∧ w.grownBy w' (some g) := by
  have c1 : w.cell? ⟨bt, 0, none⟩ = some (.func (.func (hFn j)) #[] #[]) := (hb.cell 0).trans rfl
  obtain ⟨w2, hst, hr2, hg⟩ := storeSaidH hs hr j (okH_lt hj) z32 z32_len
  have hc := hfn_any g j w hj
  have HR := Lib.hid hr2
  have HG := Lib.hid hg
  clear hr2 hg hr hb
  go_enter Tryz.func120, Tryz.ntmps120
  go_wp2_with (first
    | (guard_target =~ wpList _ _ _ (_ :: _) _ _; refine wpList_callV rfl (.tmp 3) #[.tmp 4] _ rfl (f := hFn j) (bound := #[]) (vs := #[.pointer (some ⟨g, 0, none⟩)]) rfl (by simp only [List.map_toArray, List.map_cons, List.map_nil]; rfl) (hfn_enters j) rfl ?_; refine hc.mono ?_; clear hc; rintro e w1 ⟨rfl, hw1⟩; refine .inl ⟨_, rfl, ?_⟩; subst hw1)
    | (guard_target =~ wpList _ _ _ (_ :: _) _ _; refine wpList_build rfl 24 _ rfl #[] rfl (buildZ _) ?_)
    | (guard_target =~ wpList _ _ _ (_ :: _) _ _; refine wpList_store rfl 24 (.tmp 7) (.tmp 6) rfl (.pointer (some ⟨g, offH j, none⟩)) (.agg (hC z32)) rfl rfl hst ?_)
    | fail)
  go_end0
  exact ⟨rfl, HR.out, HG.out⟩
set_option maxRecDepth 100000 in
theorem zeroR_any (g : Nat) (s : Said) (w : World) (hs : s.wf) (hr : Row w g 29 (saidC s)) :
    Calls Tryz.prog 126 #[.pointer (some ⟨g, 0, none⟩)] w fun e w' => e = .returned (.tuple #[]) ∧ Row w' g 29 (saidC (s.setR [])) ∧ w.grownBy w' (some g) := by
  obtain ⟨hst, hr2⟩ := storeSaidR hs hr []
  have hg := grown_set w g 301 (.string ⟨([] : List UInt8).toArray⟩)
  have HR := Lib.hid hr2
  have HG := Lib.hid hg
  clear hr2 hg hr
  go_enter Tryz.func126, Tryz.ntmps126
  go_wp2_with (first
    | (guard_target =~ wpList _ _ _ (_ :: _) _ _; refine wpList_store rfl 9 (.tmp 4) _ rfl (.pointer (some ⟨g, 301, none⟩)) _ rfl rfl hst ?_)
    | fail)
  go_end0
  exact ⟨rfl, HR.out, HG.out⟩
/-- A part lets go. -/
theorem zero_any (f : Fld) (cs : Array Value) (g : Nat) (s : Said) (w : World) (hs : s.wf) (hp : PartC w cs f) (hr : Row w g 29 (saidC s)) :
    ∃ F caps, cs[2]? = some (.func (.func F) #[] caps) ∧ (∀ args w, (callFunc F args).run Tryz.prog w = .ok (.enter F args) w) ∧ Calls Tryz.prog F (#[.pointer (some ⟨g, 0, none⟩)] ++ caps) w fun e w' => e = .returned (.tuple #[]) ∧ Row w' g 29 (saidC (zero1 s f)) ∧ w.grownBy w' (some g) := by
  cases f with
  | num j m =>
    obtain ⟨h1, h2, bm, bt, rfl, r1, r2⟩ := hp
    exact ⟨_, _, rfl, enters_of Tryz.func115 (by kernel_rfl) rfl, zeroN_any g j bt s w hs h1 h2 hr r2⟩
  | hash j =>
    obtain ⟨h1, bt, rfl, r1⟩ := hp
    exact ⟨_, _, rfl, enters_of Tryz.func120 (by kernel_rfl) rfl, zeroH_any g j bt s w hs h1 hr r1⟩
  | route =>
    obtain rfl : cs = partR := hp
    exact ⟨_, _, rfl, enters_of Tryz.func126 (by kernel_rfl) rfl, zeroR_any g s w hs hr⟩
theorem zero1_wf {s : Said} (h : s.wf) (f : Fld) : (zero1 s f).wf := by
  cases f with
  | num j m => exact Said.setN_wf h j 0
  | hash j => exact Said.setH_wf h j _ z32_len
  | route => exact Said.setR_wf h []
end Go.Proofs.YtcajhdmppfiaeaaGreat
