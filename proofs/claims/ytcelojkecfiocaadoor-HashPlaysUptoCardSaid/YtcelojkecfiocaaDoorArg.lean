/- What a law's arguments are: slices of bytes and of ints that came in, as lists. -/
import Derived.Test.YtcelojkecfiocaaDoorLaid
import Derived.Test.YtcelojkecfiocaaDoorBulk
import Derived.Test.YtcelojkecfiocaaDoorWSized
import Derived.Test.YtcelojkecfiocaaDoorStr
import Derived.OpenShut
import Derived.ChangeSlices
import Derived.DataShut
namespace Go.Proofs.YtcelojkecfiocaaDoor.Arg
open Go.ChangeShapes Go.WideShapes Go.RowKit Go.Proofs.YtcelojkecfiocaaDoor.Bv Go.Proofs.YtcelojkecfiocaaDoor.Mem
open Go.Proofs.YtcelojkecfiocaaDoorW.PrintWords

theorem laidOut : laidOutB Tryd.prog = true := by kernel_rfl
variable {H : Type} {enc : TypeId × Value → H} {W : World} {d : DataW H} {p : List MemPlace}

theorem ints_in {t e : TypeId} {k : IntKind} (ht : Tryd.prog.underlying t = some (.slice e)) (he : Tryd.prog.underlying e = some (.int k)) (hc : Tryd.prog.cellsOf e = 1) {a : Option Addr} {len cap : Nat}
    (h : DataW.Trod enc Tryd.prog W 0 (fun _ => true) true t (.slice a len cap) d p) : ∃ l : List Int, len = l.length ∧ ReadsInt W k a l.length l ∧ l.length ≤ maxLen ∧ (∀ x ∈ l, (Lit.int k x).wf = true) ∧ l.length ≤ cap := by
  obtain ⟨fuel, hf⟩ := h
  rcases open_ints ht he hc hf with ⟨hcs, _⟩ | ⟨x, l, c, zs, hcs, _, hl, hm, hz, _, hcell, hwz⟩
  · simp [Value.cells] at hcs
    obtain ⟨rfl, rfl, rfl⟩ := hcs
    exact ReadsInt.ofRowC (zs := []) (.inl ⟨rfl, rfl, rfl, rfl⟩)
  · simp [Value.cells] at hcs
    obtain ⟨rfl, rfl, rfl⟩ := hcs
    exact ReadsInt.ofRowC (zs := zs) (.inr ⟨_, rfl, hl, hm, by simpa using hz, hcell, hwz⟩)

theorem bytes_of {A : Option Addr} {n : Nat} {l : List Int} (h : ReadsInt W .u8 A n l) (hw : ∀ x ∈ l, (Lit.int .u8 x).wf = true) : ReadsOf eb 0 W A n (l.map fun x => UInt8.ofNat x.toNat) := by
  refine ⟨by simpa using h.1, h.2.1, fun hn => ?_⟩
  obtain ⟨ad, e, hc⟩ := h.2.2 hn
  refine ⟨ad, e, fun j hj => ?_⟩
  rw [hc j hj]
  have hl := h.1
  have hjl : j < l.length := by omega
  have h1 := (Lit.wf_int_iff _ _).1 (hw l[j] (List.getElem_mem hjl))
  simp only [IntKind.min, IntKind.max, IntKind.signed, IntKind.bits] at h1
  have h2 : (UInt8.ofNat (l[j].toNat)).toNat = l[j].toNat := by
    rw [UInt8.toNat_ofNat']
    simp at h1
    omega
  simp only [List.getD, List.getElem?_map, List.getElem?_eq_getElem hjl, Option.map_some, Option.getD_some, eb, tb, h2]
  simp at h1
  rw [Int.toNat_of_nonneg (by omega)]

theorem bytes_in {a : Option Addr} {len cap : Nat} (h : DataW.Trod enc Tryd.prog W 0 (fun _ => true) true 22 (.slice a len cap) d p) : ∃ l : List UInt8, len = l.length ∧ ReadsOf eb 0 W a l.length l ∧ l.length ≤ cap := by
  obtain ⟨l, e, h1, _, h3, h4⟩ := ints_in (e := 5) Tryd.underlying22 (by kernel_rfl) (by kernel_rfl) h
  refine ⟨l.map fun x => UInt8.ofNat x.toNat, by simpa using e, ?_, by simpa using h4⟩
  have := bytes_of h1 h3
  simpa using this

/-- A slice of whole numbers is no longer than its bulk. -/
theorem len_bulk {t e : TypeId} {k : IntKind} (ht : Tryd.prog.underlying t = some (.slice e)) (he : Tryd.prog.underlying e = some (.int k)) (hc : Tryd.prog.cellsOf e = 1) {a : Option Addr} {len cap : Nat}
    (h : DataW.Trod enc Tryd.prog W 0 (fun _ => true) true t (.slice a len cap) d p) : len ≤ Rows.uptoBulk d := by
  obtain ⟨fuel, hf⟩ := h
  rcases open_ints ht he hc hf with ⟨hcs, _⟩ | ⟨x, l, c, zs, hcs, _, hl, hm, hz, hx, _, _⟩
  · simp [Value.cells] at hcs
    omega
  · simp [Value.cells] at hcs
    obtain ⟨rfl, rfl, rfl⟩ := hcs
    obtain ⟨rfl, _⟩ := Prod.mk.inj hx
    have h1 := bulks.slice_le (H := H) (lits k (zs.take len)) (lits k (zs.drop len))
    have h2 : (lits (H := H) k (zs.take len)).length = len := by
      simp [lits]
      simp at hz
      omega
    omega
/-- A number is of its kind. -/
theorem i64_in {n : Int} (h : (Lit.int .i64 n).wf = true) : -9223372036854775808 ≤ n ∧ n ≤ 9223372036854775807 := by
  unfold Lit.wf at h
  rw [Bool.and_eq_true, decide_eq_true_eq, decide_eq_true_eq] at h
  have e1 : IntKind.i64.min = -9223372036854775808 := by decide
  have e2 : IntKind.i64.max = 9223372036854775807 := by decide
  rw [e1, e2] at h
  exact h
theorem u8_in {n : Int} (h : (Lit.int .u8 n).wf = true) : 0 ≤ n ∧ n ≤ 255 := by
  unfold Lit.wf at h
  rw [Bool.and_eq_true, decide_eq_true_eq, decide_eq_true_eq] at h
  have e1 : IntKind.u8.min = 0 := by decide
  have e2 : IntKind.u8.max = 255 := by decide
  rw [e1, e2] at h
  exact h
/-- A byte as the walk has it. -/
theorem u8_val {n : Int} (h : (Lit.int .u8 n).wf = true) : ∃ T : UInt8, n = Bv.tb T := by
  have := u8_in h
  refine ⟨UInt8.ofNat n.toNat, ?_⟩
  unfold Bv.tb
  rw [UInt8.toNat_ofNat']
  omega
end Go.Proofs.YtcelojkecfiocaaDoor.Arg
