/- An array of bytes that came in. -/
import Derived.Test.YtfconncnccgenaaShaR5
import Derived.Test.YtfconncnccgenaaLaw
import Derived.ShutString
import Derived.ChangeOld
import Derived.OpenShut
set_option linter.unusedVariables false
set_option linter.unusedSimpArgs false
namespace Go.Proofs.Ytfconncnccgenaa
open Go.ChangeShapes Go.WideShapes Go.ChangeAt Go.RowKit
def byteOfV : Value → UInt8
  | .int _ z => UInt8.ofNat z.toNat
  | _ => 0
theorem open_arr8 {H : Type} {enc : TypeId × Value → H} {P : Program} {w : World} {r : Reach} {b0 base : Nat} {spare : Nat → Bool} {held : Bool} {t e : TypeId} {n : Nat} {v : Value} {d : DataW H} {ps : List MemPlace} (ht : P.underlying t = some (.array n e)) (he : P.underlying e = some (.int .u8)) (hce : P.cellsOf e = 1) (hct : P.cellsOf t = n)
    (hval : Value.okWide P w r b0 t v) (hd : DataW.Trod enc P w base spare held t v d ps) : ∃ l : List UInt8, l.length = n ∧ v = .agg (l.map byteV).toArray := by
  obtain ⟨cs, rfl, hsz, _⟩ : ∃ cs, v = .agg cs ∧ cs.size = P.cellsOf t ∧ Row.okWide P w r b0 t cs := by
    simpa [Value.okWide, ht] using hval
  obtain ⟨fuel, hf⟩ := hd
  obtain ⟨xs, m, rfl, _, _, hn, hx⟩ := DataW.trod_array ht hf
  rw [hct] at hsz
  have hcell : ∀ i, i < n → ∃ z : Int, cs[i]? = some (.int .u8 z) ∧ 0 ≤ z ∧ z ≤ 255 := by
    intro i hi
    have h := hx i hi
    rw [hce, Nat.mul_one, List.getElem?_eq_getElem (by omega)] at h
    obtain ⟨z, hz, _, hw⟩ := DataW.trod_int he h
    refine ⟨z, ?_, ?_⟩
    · have hcl : i < cs.toList.length := by simp; omega
      simp only [Value.cells] at hz
      rw [List.drop_eq_getElem_cons hcl] at hz
      simp only [List.take_succ_cons, List.take_zero] at hz
      injection hz with hz
      rw [← hz, ← Array.getElem?_toList, List.getElem?_eq_getElem hcl]
    · simp [Lit.wf, IntKind.min, IntKind.max, IntKind.signed, IntKind.bits] at hw
      omega
  refine ⟨cs.toList.map byteOfV, by simp; exact hsz, ?_⟩
  congr 1
  apply Array.ext_getElem?
  intro i
  by_cases hi : i < n
  · obtain ⟨z, hz, h1, h2⟩ := hcell i hi
    have hz' : cs.toList[i]? = some (.int .u8 z) := by rw [Array.getElem?_toList]; exact hz
    simp only [List.getElem?_toArray, List.getElem?_map, hz', Option.map_some, hz, byteOfV]
    congr 1
    unfold byteV
    congr 1
    rw [UInt8.toNat_ofNat']
    omega
  · rw [Array.getElem?_eq_none (by omega), Array.getElem?_eq_none (by simp; omega)]
theorem hC_full (h : List UInt8) (hl : h.length = 32) : hC h = (h.map byteV).toArray := by
  unfold hC
  simp [Sha.zeros, hl]
end Go.Proofs.Ytfconncnccgenaa
