/- From what came in to the words of the walks: bytes that read as a list; a slice of such. -/
import Derived.Test.YtfconncnccgenaaRows
import Derived.Test.YtfconncnccgenaaBytes
import Derived.ProofKit
import Derived.OpenShut
import Derived.Deep.Slices
import Derived.Deep.Matrix
namespace Go.Proofs.Ytfconncnccgenaa
open Go.ChangeShapes Go.WideShapes Go.ChangeAt Go.RowKit
theorem addr_none {w : World} {x : Addr} {v : Value} (h : w.cell? x = some v) : x = ⟨x.block, x.off, none⟩ := by
  rcases x with ⟨b, o, s⟩
  rcases s with _ | s
  · rfl
  · exfalso
    unfold World.cell? at h
    simp only [Option.isSome_some, if_true] at h
    split at h <;> cases h
theorem addr_add (b o i : Nat) : (⟨b, o, none⟩ : Addr).add i = ⟨b, o + i, none⟩ := by
  rcases Nat.eq_zero_or_pos i with rfl | hp
  · rfl
  · simp [Addr.add, Nat.ne_of_gt hp]
theorem u8_of_wf {n : Int} (h : (Lit.int .u8 n).wf = true) : ((UInt8.ofNat n.toNat).toNat : Int) = n := by
  have hb := bounds_u8 h
  rw [UInt8.toNat_ofNat']
  omega
def bytesOf (zs : List Int) : List UInt8 := zs.map fun z => UInt8.ofNat z.toNat
/-- Bytes that came in. -/
structure InBytes (w : World) (A : Option Addr) (n c : Nat) (l : List UInt8) : Prop where
  len : l.length = n
  cap : n ≤ c
  most : c ≤ maxLen
  rd : Rd w A l
theorem rd_of_ints {w : World} {x : Addr} {len : Nat} {zs : List Int} (hl : len ≤ zs.length) (hc : ∀ i, i < zs.length → w.cell? (x.add i) = some (.int .u8 (zs.getD i 0))) (hw : ∀ n ∈ zs, (Lit.int .u8 n).wf = true) :
    Rd w (some x) (bytesOf (zs.take len)) := fun hne => by
  have h0 : 0 < zs.length := by
    rcases zs with _ | ⟨z, zs⟩
    · exact absurd (by simp [bytesOf]) hne
    · simp
  obtain ⟨b, o, rfl⟩ : ∃ b o, x = ⟨b, o, none⟩ := ⟨_, _, addr_none (show w.cell? x = some _ from hc 0 h0)⟩
  refine ⟨b, o, rfl, fun i hi => ?_⟩
  have hi' : i < zs.length := by
    unfold bytesOf at hi
    rw [List.length_map, List.length_take] at hi
    omega
  have h := hc i hi'
  rw [addr_add] at h
  rw [h]
  have hwz := hw zs[i] (List.getElem_mem hi')
  have e : zs.getD i 0 = zs[i] := by simp [List.getD, hi']
  rw [e]
  have e2 : (bytesOf (zs.take len))[i] = UInt8.ofNat (zs[i]).toNat := by simp [bytesOf]
  rw [e2, byteV, u8_of_wf hwz]
theorem in_bytes {H : Type} {enc : TypeId × Value → H} {P : Program} {w : World} {t e : TypeId} {held : Bool} {fuel len cap : Nat} {A : Option Addr} {x : DataW H × List MemPlace} (ht : P.underlying t = some (.slice e)) (he : P.underlying e = some (.int .u8)) (hc : P.cellsOf e = 1)
    (h : DataW.trod enc P w 0 (fun _ => true) held fuel t [.slice A len cap] = some x) : ∃ l, InBytes w A len cap l := by
  rcases open_ints ht he hc h with ⟨hcs, _⟩ | ⟨ad, l, c, zs, hcs, _, hl, hm, hz, _, hcell, hwz⟩
  · injection hcs with h1
    injection h1 with h1 h2 h3
    subst h1 h2 h3
    exact ⟨[], rfl, Nat.le_refl _, Nat.zero_le _, Rd.nil _ _⟩
  · injection hcs with h1
    injection h1 with h1 h2 h3
    subst h1 h2 h3
    simp only [if_true] at hz
    refine ⟨bytesOf (zs.take len), ?_, hl, hm, rd_of_ints (by omega) hcell hwz⟩
    unfold bytesOf
    rw [List.length_map, List.length_take]
    omega
/-- A slice of slices of bytes that came in. -/
structure InRows (w : World) (A : Option Addr) (n c : Nat) (ls : List (List UInt8)) : Prop where
  len : ls.length = n
  cap : n ≤ c
  most : c ≤ maxLen
  small : ∀ l ∈ ls, l.length ≤ maxLen
  rd : Rds w A ls
theorem in_rows {H : Type} {enc : TypeId × Value → H} {P : Program} {w : World} {t e q : TypeId} {held : Bool} {fuel len cap : Nat} {A : Option Addr} {x : DataW H × List MemPlace} (ht : P.underlying t = some (.slice e)) (he : P.underlying e = some (.slice q)) (hq : P.underlying q = some (.int .u8)) (ce : P.cellsOf e = 1) (cq : P.cellsOf q = 1)
    (h : DataW.trod enc P w 0 (fun _ => true) held fuel t [.slice A len cap] = some x) : ∃ ls, InRows w A len cap ls := by
  rcases Deep.open_int_rows ht he hq ce cq h with ⟨hcs, _⟩ | ⟨ad, l, c, A', L, C, Z, hcs, _, hl, hm, _, hr⟩
  · injection hcs with h1
    injection h1 with h1 h2 h3
    subst h1 h2 h3
    exact ⟨[], rfl, Nat.le_refl _, Nat.zero_le _, by simp, Rds.nil _ _⟩
  · injection hcs with h1
    injection h1 with h1 h2 h3
    subst h1 h2 h3
    have hlen : ∀ r, r < len → (bytesOf ((Z r).take (L r))).length = L r := fun r hr' => by
      obtain ⟨_, h2, _, h4, _⟩ := hr r (by omega)
      unfold bytesOf
      rw [List.length_map, List.length_take]
      omega
    refine ⟨(List.range len).map fun r => bytesOf ((Z r).take (L r)), by simp, hl, hm, ?_, fun hne => ?_⟩
    · intro l hl'
      obtain ⟨r, hr', rfl⟩ := List.mem_map.1 hl'
      have hr'' := List.mem_range.1 hr'
      rw [hlen r hr'']
      obtain ⟨_, h2, h3, _⟩ := hr r (by omega)
      omega
    have h0 : 0 < len := by
      rcases Nat.eq_zero_or_pos len with rfl | hp
      · exact absurd rfl hne
      · exact hp
    obtain ⟨b, o, rfl⟩ : ∃ b o, ad = ⟨b, o, none⟩ := ⟨_, _, addr_none (show w.cell? ad = some _ from (hr 0 (by omega)).1)⟩
    refine ⟨b, o, rfl, fun i hi => ?_⟩
    have hi' : i < len := by simpa using hi
    obtain ⟨h1, h2, h3, h4, h5, h6, h7⟩ := hr i (by omega)
    refine ⟨A' i, C i, ?_, ?_⟩
    · rw [addr_add] at h1
      rw [h1]
      simp [hlen i hi']
    · have e2 : ((List.range len).map fun r => bytesOf ((Z r).take (L r)))[i] = bytesOf ((Z i).take (L i)) := by simp
      rw [e2]
      rcases hA : A' i with _ | x'
      · have : C i = 0 := h6 hA
        have hZ : Z i = [] := List.eq_nil_of_length_eq_zero (by omega)
        rw [hZ, show bytesOf (List.take (L i) []) = [] from by simp [bytesOf]]
        exact Rd.nil _ _
      · exact rd_of_ints (by omega) (fun j hj => (h7 x' hA).2 j (by omega)) h5
theorem laidOut : laidOutB Try.prog = true := by kernel_rfl
theorem ownK : ownKnob Try.prog.godebug = none := by kernel_rfl
end Go.Proofs.Ytfconncnccgenaa
