/- Walks: the first number of bytes. -/
import Derived.Test.YtmipaacobioakaaWr4
import Derived.Lib.QuoteBits
set_option linter.unusedVariables false
set_option linter.unusedSimpArgs false
namespace Go.Proofs.Ytmipaacobioakaa
open Go.RowKit Go.Maps
theorem wpList_insert_own {H : Type} {P : Program} (w : World) {ops : Array Oper} {rest : List Oper} {o : Oper} {a : Act} {Q : Exit → Act → World → Prop}
    (hg : o.guard = none) (m x v : Operand) (t : TypeId) (hop : o.op = Op.insert t m x v)
    (k e : TypeId) (K : Keyed P k) (ht : P.underlying t = some (.map k e)) (R : Value → Option (DataW H × List MemPlace)) (b n : Nat) (D : DataW H)
    (hm : a.eval m = .map (some b)) (hown : w.ownsMap P k R b n D) (hn : n < maxLen) (key val : Value) (kl : Lit) (hx : a.eval x = key) (hv : a.eval v = val) (hkey : keyOf P k key = some kl)
    (d : DataW H) (ps : List MemPlace) (hval : R val = some (d, ps))
    (hK : ∀ w', w'.ownsMap P k R b (n + 1) (D.put kl d) → w.grownBy w' (some b) → wpList P ops Q rest (a.put o.dst undef) w') :
    wpList P ops Q (o :: rest) a w := by
  refine wpList_plain hg fun K' hK' => ?_
  obtain ⟨w', hrun, r1, r2⟩ := hown.update K ht hn hkey hval
  unfold Oper.wp
  simp [execOp, hop, hm, hx, hv, hrun, Result.andThen]
  exact hK' _ _ (hK w' r1 r2)
def manyD : DataW Unit := (((DataW.map []).put (.int .u8 253) (.lit (.int .i64 2))).put (.int .u8 254) (.lit (.int .i64 4))).put (.int .u8 255) (.lit (.int .i64 8))
theorem manyD_at (c : UInt8) : manyD.atKey (.int .u8 (c.toNat : Int)) (.lit (.int .i64 0)) = .lit (.int .i64 (Wr.many c : Int)) := by
  have e : manyD = DataW.map [(.int .u8 253, .lit (.int .i64 2)), (.int .u8 254, .lit (.int .i64 4)), (.int .u8 255, .lit (.int .i64 8))] := by kernel_rfl
  rw [e]
  unfold Wr.many
  by_cases h1 : c = 253
  · subst h1; rfl
  · by_cases h2 : c = 254
    · subst h2; rfl
    · by_cases h3 : c = 255
      · subst h3; rfl
      · rw [if_neg h1, if_neg h2, if_neg h3]
        have n1 : c.toNat ≠ 253 := fun e => h1 (UInt8.toNat_inj.1 e)
        have n2 : c.toNat ≠ 254 := fun e => h2 (UInt8.toNat_inj.1 e)
        have n3 : c.toNat ≠ 255 := fun e => h3 (UInt8.toNat_inj.1 e)
        have i1 : ¬ (253 : Int) = (c.toNat : Int) := by omega
        have i2 : ¬ (254 : Int) = (c.toNat : Int) := by omega
        have i3 : ¬ (255 : Int) = (c.toNat : Int) := by omega
        simp [DataW.atKey, Lit.sameKey, List.find?, i1, i2, i3]
theorem zeroInt (w : World) : (zeroValue 3).run Try.prog w = .ok (.int .i64 0) w := by kernel_rfl
theorem or_byte (V : Nat) (c : UInt8) (hV : V < 36028797018963968) : bits .or .i64 (wrap64 ((V : Int) * 256)) (c.toNat : Int) = ((256 * V + c.toNat : Nat) : Int) := by
  have hc := c.toNat_lt
  have hw : wrap64 ((V : Int) * 256) = ((V * 256 : Nat) : Int) := by
    unfold wrap64
    omega
  rw [hw]
  show IntKind.i64.wrap ((BitVec.ofInt 64 ((V * 256 : Nat) : Int) ||| BitVec.ofInt 64 ((c.toNat : Nat) : Int)).toNat : Int) = _
  rw [BitVec.toNat_or, ofInt_u64 _ (by omega), ofInt_u64 _ (by omega), nat_join8 (V * 256) c.toNat (by omega) (by omega), show V * 256 + c.toNat = 256 * V + c.toNat by omega]
  exact Lib.wrap_i64_small _ (by omega)
theorem or_byte_neg (c : Nat) (hc : c < 256) : bits .or .i64 (wrap64 (36028797018963968 * 256)) (c : Int) < 0 ∧ -9223372036854775808 ≤ bits .or .i64 (wrap64 (36028797018963968 * 256)) (c : Int) := by
  have h : ∀ c, c < 256 → bits .or .i64 (wrap64 (36028797018963968 * 256)) ((c : Nat) : Int) < 0 ∧ -9223372036854775808 ≤ bits .or .i64 (wrap64 (36028797018963968 * 256)) ((c : Nat) : Int) := by decide +kernel
  exact h c hc
theorem maps3 {w w1 w2 w3 : World} (hg1 : (w.alloc (.map #[] 0)).grownBy w1 (some w.heap.size)) (hg2 : w1.grownBy w2 (some w.heap.size)) (hg3 : w2.grownBy w3 (some w.heap.size)) : Below w.heap.size w w3 := by
  have s1 := hg1.size
  have s2 := hg2.size
  simp only [World.size_alloc] at s1
  have h0 := (Below.refl w.heap.size w).alloc (Nat.le_refl _) (.map #[] 0)
  exact ((h0.grown hg1 (by simp) (fun k e => by cases e; exact Nat.le_refl _)).grown hg2 (by omega) (fun k e => by cases e; exact Nat.le_refl _)).grown hg3 (by omega) (fun k e => by cases e; exact Nat.le_refl _)
set_option maxRecDepth 100000 in
set_option maxHeartbeats 1000000 in
theorem first_any (A : Option Addr) (n c : Nat) (l : List UInt8) (w : World) (hn : l.length = n) (hc : n ≤ c) (hcm : c ≤ 9223372036854775807) (hr : Rd w A l) :
    Calls Try.prog 60 #[.slice A n c] w fun e w' => e = .returned (.tuple #[.int .i64 ((Wr.first l).1 : Int), .int .i64 (Wr.first l).2]) ∧ Below w.heap.size w w' := by
  rcases l with _ | ⟨x, r⟩
  · simp at hn
    subst hn
    go_enter Try.func60, Try.ntmps60
    go_wp2_with fail
    go_ret2
    exact ⟨rfl, Below.refl _ _⟩
  · have hn0 : 0 < n := by rw [← hn]; simp
    obtain ⟨b, o, rfl, hc0⟩ := hr.at_ (k := 0) (by simp)
    rw [Nat.add_zero] at hc0
    have hd2 : decide ((0 : Int) < (n : Int)) = true := decide_eq_true (by omega)
    have hd2' : decide (0 < n) = true := decide_eq_true hn0
    have hmm := @run_makeMap Try.prog
    have hd : decide ((n : Int) = 0) = false := decide_eq_false (by omega)
    have hd' : decide (n = 0) = false := decide_eq_false (by omega)
    have hm0 := World.ownsMap_made (H := Unit) w Try.prog 5 (plainElem Try.prog 3)
    have hx := x.toNat_lt
    have hkx : keyOf Try.prog 5 (.int .u8 (x.toNat : Int)) = some (.int .u8 (x.toNat : Int)) := keyOf_int_mk Try.underlying5 (by simp [Lit.wf, IntKind.min, IntKind.max, IntKind.signed, IntKind.bits]; omega)
    go_enter Try.func60, Try.ntmps60
    go_upto_region 4 with (first
      | (refine wpList_insert_own _ rfl (.tmp 10) (.const (.int .u8 253)) (.const (.int .i64 2)) 130 rfl 5 3 (int_keyed Try.underlying5) Try.underlying130 _ w.heap.size 0 _ rfl hm0 (by decide) _ _ _ rfl rfl (keyOf_int_mk Try.underlying5 (by decide)) _ [] (plainElem_int Try.underlying3 (by decide)) ?_; intro w1 hm1 hg1)
      | (refine wpList_insert_own _ rfl (.tmp 10) (.const (.int .u8 254)) (.const (.int .i64 4)) 130 rfl 5 3 (int_keyed Try.underlying5) Try.underlying130 _ w.heap.size 1 _ rfl hm1 (by decide) _ _ _ rfl rfl (keyOf_int_mk Try.underlying5 (by decide)) _ [] (plainElem_int Try.underlying3 (by decide)) ?_; intro w2 hm2 hg2)
      | (refine wpList_insert_own _ rfl (.tmp 10) (.const (.int .u8 255)) (.const (.int .i64 8)) 130 rfl 5 3 (int_keyed Try.underlying5) Try.underlying130 _ w.heap.size 2 _ rfl hm2 (by decide) _ _ _ rfl rfl (keyOf_int_mk Try.underlying5 (by decide)) _ [] (plainElem_int Try.underlying3 (by decide)) ?_; intro w3 hm3 hg3; have hL3 : Below w.heap.size w w3 := maps3 hg1 hg2 hg3; have hc3 : w3.cell? ⟨b, o, none⟩ = some (.int .u8 (x.toNat : Int)) := (hL3.cell (p := ⟨b, o, none⟩) (block_lt_of_cell hc0)).trans hc0)
      | (at_lookup; refine wpList_lookup_own_int _ rfl _ _ 130 rfl 5 3 .i64 (int_keyed Try.underlying5) Try.underlying130 Try.underlying3 (zeroInt _) w.heap.size 3 _ rfl hm3 _ _ rfl hkx ?_; intro mc hat hwc)
      | fail)
    have hmany : mc = (Wr.many x : Int) := by
      have e := (manyD_at x).symm.trans hat
      injection e with e
      injection e with _ e
      exact e.symm
    subst hmany
    have hr3 := hr.below hL3
    clear hat hwc hm0 hm1 hm2 hm3 hg1 hg2 hg3 hmm hd hd' hd2 hd2' hkx hc0
    have hM : Wr.many x = 0 ∨ Wr.many x = 2 ∨ Wr.many x = 4 ∨ Wr.many x = 8 := by unfold Wr.many; split; simp; split; simp; split <;> simp
    by_cases hmz : Wr.many x = 0
    · have hfst : Wr.first (x :: r) = (x.toNat, 1) := by simp [Wr.first, hmz]
      have HF := Lib.hid hfst
      have hd2 : decide ((0 : Int) < (n : Int)) = true := decide_eq_true (by omega)
      have hd2' : decide (0 < n) = true := decide_eq_true hn0
      rw [hmz]
      clear hfst
      go_wp2_with fail
      go_ret2
      exact ⟨by rw [HF.out]; rfl, hL3⟩
    obtain ⟨m, hm⟩ : ∃ q, Wr.many x = q := ⟨_, rfl⟩
    rw [hm] at hM hmz ⊢
    have hm8 : m ≤ 8 := by omega
    have hd3 : decide ((m : Int) = 0) = false := decide_eq_false (by omega)
    have hd3' : decide (m = 0) = false := decide_eq_false (by omega)
    have HM := Lib.hid hm
    clear hm
    by_cases hlt : n ≤ m
    · have hd4 : decide ((n : Int) ≤ (m : Int)) = true := decide_eq_true (by omega)
      have hd4' : decide (n ≤ m) = true := decide_eq_true (by omega)
      have hfst : Wr.first (x :: r) = (0, 0) := by
        have hl : r.length < m := by simp at hn; omega
        simp only [Wr.first]
        rw [HM.out, if_neg (by omega), if_pos hl]
      have HF := Lib.hid hfst
      clear hfst
      go_wp2_with fail
      go_ret2
      exact ⟨by rw [HF.out]; rfl, hL3⟩
    · have hd4 : decide ((n : Int) ≤ (m : Int)) = false := decide_eq_false (by omega)
      have hd4' : decide (n ≤ m) = false := decide_eq_false (by omega)
      go_upto_region 9 with fail
      have hrl : m ≤ r.length := by simp at hn; omega
      have hRd : ∀ i (h : i < m), w3.cell? ⟨b, o + 1 + i, none⟩ = some (.int .u8 ((r[i]'(by omega)).toNat : Int)) := fun i h => by
        obtain ⟨b', o', e', hcc⟩ := hr3 (by simp)
        injection e' with e'
        injection e' with e1 e2
        subst e1 e2
        have := hcc (i + 1) (by simp; omega)
        rw [show o + (i + 1) = o + 1 + i by omega] at this
        exact this
      have hlen1 : 1 + m - 1 = m := by omega
      rw [hlen1]
      have HRD := Lib.hid hRd
      have HR3 := Lib.hid hr3
      have HN := Lib.hid hn
      clear hRd hr3 hlen1 hd3 hd3' hd4 hd4' hn hr
      go_loopw [2, 31] (fun z t wr => ∃ i : Nat, i ≤ m ∧ t = .int .i64 (i : Int) ∧ wr = w3 ∧ ∃ q : Int, z = .int .i64 q ∧ ((q = (Wr.val (r.take i) : Int) ∧ q < 9223372036854775808) ∨ (i = m ∧ q < 0 ∧ -9223372036854775808 ≤ q ∧ 9223372036854775808 ≤ Wr.val (r.take i)))) (fun z t _ => m - (intOf t).toNat)
      case atStart => exact ⟨0, by omega, rfl, rfl, 0, rfl, .inl ⟨rfl, by decide⟩⟩
      case round =>
        obtain ⟨i, hi, rfl, rfl, q, rfl, hq⟩ := hrel
        by_cases hlti : i < m
        · have hdl : decide ((i : Int) < (m : Int)) = true := decide_eq_true (by omega)
          have hdl' : decide (i < m) = true := decide_eq_true (by omega)
          have hcell := HRD.out i hlti
          obtain ⟨e, hqb⟩ := hq.resolve_right (fun h => by omega)
          have hnx : r.take (i + 1) = r.take i ++ [r[i]'(by omega)] := List.take_succ_eq_append_getElem (by omega)
          have hv1 : Wr.val (r.take (i + 1)) = 256 * Wr.val (r.take i) + (r[i]'(by omega)).toNat := by rw [hnx, Wr.val_snoc]
          have hcc := (r[i]'(by omega : i < r.length)).toNat_lt
          generalize hcx : (r[i]'(by omega : i < r.length)) = cx at *
          generalize hV : Wr.val (r.take i) = V at *
          have hvl : V < 256 ^ 7 := by
            have := Wr.val_lt (r.take i)
            rw [hV, List.length_take, Nat.min_eq_left (by omega)] at this
            exact Nat.lt_of_lt_of_le this (Nat.pow_le_pow_right (by decide) (by omega))
          subst e
          by_cases hbig : 36028797018963968 < V
          · have hd5 : decide ((36028797018963968 : Int) < (V : Int)) = true := decide_eq_true (by omega)
            have hfst : Wr.first (x :: r) = (0, -1) := by
              have := Wr.val_more r i m hlti hrl
              simp only [Wr.first]
              rw [HM.out, if_neg hmz, if_neg (by omega), if_pos (.inl (by omega))]
            have HF := Lib.hid hfst
            clear hfst
            go_wp2_with fail
            go_ret2
            exact ⟨by rw [HF.out]; rfl, hL3⟩
          · have hd5 : decide ((36028797018963968 : Int) < (V : Int)) = false := decide_eq_false (by omega)
            have hv2 : V < 256 ^ i := by
              have := Wr.val_lt (r.take i)
              rwa [hV, List.length_take, Nat.min_eq_left (by omega)] at this
            have HV1 := Lib.hid hv1
            have HV2 := Lib.hid hv2
            clear hv1 hv2 hnx
            go_wp2_with fail
            go_roundw
            case rel =>
              refine ⟨i + 1, by omega, by go_num, trivial, _, rfl, ?_⟩
              by_cases hs : V < 36028797018963968
              · rw [or_byte V cx hs, HV1.out]
                exact .inl ⟨rfl, by omega⟩
              · obtain rfl : V = 36028797018963968 := by omega
                have hi7 : ¬ i ≤ 6 := fun h => by
                  have := Nat.lt_of_lt_of_le HV2.out (Nat.pow_le_pow_right (by decide) h : 256 ^ i ≤ 256 ^ 6)
                  omega
                obtain ⟨h1, h2⟩ := or_byte_neg cx.toNat hcc
                exact .inr ⟨by omega, h1, h2, by rw [HV1.out]; omega⟩
            case measure => simp [intOf]; omega
        · obtain rfl : i = m := by omega
          have hdl : decide ((i : Int) < (i : Int)) = false := decide_eq_false (by omega)
          have hdl' : decide (i < i) = false := decide_eq_false (by omega)
          have hnb := Wr.nb_le q
          have hqq : q < 9223372036854775808 := by rcases hq with h | h <;> omega
          have hnum := fun W => number_any (.slice none 0 0) [] q W.heap.size W hqq (by decide) (Nat.le_refl _) (Own.nil _ _ _)
          have HNUM := Lib.hid hnum
          clear hnum
          have hfst : (Wr.first (x :: r)) = if 4611686018427387904 < q ∨ (Wr.nb q).length ≠ 1 + i then (0, -1) else (q.toNat, 1 + (i : Int)) := by
            simp only [Wr.first]
            rw [HM.out, if_neg hmz, if_neg (by omega)]
            rcases hq with ⟨e, hlt⟩ | ⟨_, hneg, _, hbig⟩
            · subst e
              rw [Wr.nb_nat]
              by_cases h : 4611686018427387904 < Wr.val (r.take i) ∨ (Wr.bytes (Wr.val (r.take i))).length ≠ 1 + i
              · rw [if_pos h, if_pos (h.imp (fun h => by omega) id)]
              · rw [if_neg h, if_neg (fun h2 => h (h2.imp (fun h => by omega) id))]
                rfl
            · have h1 : (Wr.nb q).length = 1 := by rw [Wr.nb, if_pos (by omega)]; rfl
              rw [if_pos (.inl (by omega)), if_pos (.inr (by omega))]
          have HF := Lib.hid hfst
          clear hfst
          by_cases h62 : 4611686018427387904 < q
          · have hd6 : decide ((4611686018427387904 : Int) < q) = true := decide_eq_true h62
            rw [if_pos (.inl h62)] at HF
            go_wp2_with fail
            go_ret2
            exact ⟨by rw [HF.out]; rfl, hL3⟩
          · have hd6 : decide ((4611686018427387904 : Int) < q) = false := decide_eq_false h62
            generalize hbl : (Wr.nb q).length = bl at *
            have HBL := Lib.hid hbl
            clear hbl
            by_cases hbe : bl = 1 + i
            · have hd7 : decide ((bl : Int) = 1 + (i : Int)) = true := decide_eq_true (by omega)
              rw [if_neg (fun h => h.elim h62 (fun h => h hbe))] at HF
              go_wp2_with (first
                | (go_at_call 39; refine (HNUM.out _).mono ?_; rintro e w5 ⟨v5, rfl, hown5, hgr5⟩; rw [List.nil_append] at hown5; obtain ⟨A5, c5, rfl, _, _, _⟩ := hown5.slice; rw [HBL.out])
                | fail)
              have hq0 : 0 ≤ q := by
                rcases hq with ⟨e, _⟩ | ⟨_, hneg, _, _⟩
                · omega
                · have h1 : (Wr.nb q).length = 1 := by rw [Wr.nb, if_pos (by omega)]; rfl
                  have := HBL.out
                  omega
              have hqn : ((q.toNat : Nat) : Int) = q := by omega
              have HQ := Lib.hid hqn
              clear hqn
              go_ret2
              exact ⟨by rw [HF.out]; show Ending.returned _ = Ending.returned (.tuple #[.int .i64 ((q.toNat : Nat) : Int), _]); rw [HQ.out]; rfl, hL3.grown hgr5.1 hL3.size (fun k e => by cases e)⟩
            · have hd7 : decide ((bl : Int) = 1 + (i : Int)) = false := decide_eq_false (by omega)
              rw [if_pos (.inr hbe)] at HF
              go_wp2_with (first
                | (go_at_call 39; refine (HNUM.out _).mono ?_; rintro e w5 ⟨v5, rfl, hown5, hgr5⟩; rw [List.nil_append] at hown5; obtain ⟨A5, c5, rfl, _, _, _⟩ := hown5.slice; rw [HBL.out])
                | fail)
              go_ret2
              exact ⟨by rw [HF.out]; rfl, hL3.grown hgr5.1 hL3.size (fun k e => by cases e)⟩
end Go.Proofs.Ytmipaacobioakaa
