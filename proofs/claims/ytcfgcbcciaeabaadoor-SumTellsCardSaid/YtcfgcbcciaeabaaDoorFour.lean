/- An array of four bytes that came in, as a list. -/
import Derived.Test.YtcfgcbcciaeabaaDoorArg
namespace Go.Proofs.YtcfgcbcciaeabaaDoor.Four
open Go.ChangeShapes Go.WideShapes Go.RowKit Go.Proofs.YtcfgcbcciaeabaaDoor.Bv Go.Proofs.YtcfgcbcciaeabaaDoor.Mem
variable {H : Type} {enc : TypeId × Value → H} {W : World}

theorem one_in {m : Nat} {cs : List Value} {x : DataW H × List MemPlace} (h : DataW.trod enc Tryd.prog W 0 (fun _ => true) true m 5 cs = some x) : ∃ c : UInt8, cs = [eb c] := by
  obtain ⟨n, rfl, _, hw⟩ := DataW.trod_int Tryd.underlying5 h
  obtain ⟨c, rfl⟩ := Arg.u8_val hw
  exact ⟨c, rfl⟩
theorem bytes4_in {base : Nat} {v : Value} {d : DataW H} {p : List MemPlace} (hv : Value.okWide Tryd.prog W .any base 38 v) (h : DataW.Trod enc Tryd.prog W 0 (fun _ => true) true 38 v d p) :
    ∃ E : List UInt8, E.length = 4 ∧ v = .agg (E.map eb).toArray := by
  simp only [Value.okWide, Tryd.underlying38] at hv
  obtain ⟨cs, rfl, hsz, _⟩ := hv
  obtain ⟨fuel, hf⟩ := h
  obtain ⟨xs, m, _, _, hl, hxl, hget⟩ := DataW.trod_array Tryd.underlying38 hf
  have h38 : Tryd.prog.cellsOf 38 = 4 := by kernel_rfl
  have h5 : Tryd.prog.cellsOf 5 = 1 := by kernel_rfl
  rw [h38] at hl
  rw [h5] at hget
  have hcl : cs.toList.length = 4 := by simpa [Value.cells] using hl
  have at_ : ∀ i, i < 4 → ∃ c : UInt8, ((cs.toList.drop i).take 1) = [eb c] := by
    intro i hi
    have h1 := hget i hi
    rw [Nat.mul_one, List.getElem?_eq_getElem (by omega : i < xs.length)] at h1
    exact one_in h1
  obtain ⟨a, b, c, e, he⟩ : ∃ a b c e, cs.toList = [a, b, c, e] := by
    match cs.toList, hcl with
    | [a, b, c, e], _ => exact ⟨a, b, c, e, rfl⟩
  rw [he] at at_
  obtain ⟨c0, h0⟩ := at_ 0 (by omega)
  obtain ⟨c1, h1⟩ := at_ 1 (by omega)
  obtain ⟨c2, h2⟩ := at_ 2 (by omega)
  obtain ⟨c3, h3⟩ := at_ 3 (by omega)
  simp at h0 h1 h2 h3
  refine ⟨[c0, c1, c2, c3], rfl, ?_⟩
  congr 1
  apply Array.ext'
  rw [he, h0, h1, h2, h3]
  rfl
end Go.Proofs.YtcfgcbcciaeabaaDoor.Four
