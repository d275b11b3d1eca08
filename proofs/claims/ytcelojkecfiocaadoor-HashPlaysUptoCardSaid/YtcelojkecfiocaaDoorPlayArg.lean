/- A script that came in, as a list of steps: each with its bytes. -/
import Derived.Test.YtcelojkecfiocaaDoorPlay
import Derived.Test.YtcelojkecfiocaaDoorArg
import Derived.Deep.Slices
import Derived.Deep.Fields
namespace Go.Proofs.YtcelojkecfiocaaDoor.PlayArg
open Go.ChangeShapes Go.WideShapes Go.RowKit Go.Proofs.YtcelojkecfiocaaDoor.Bv Go.Proofs.YtcelojkecfiocaaDoor.Mem
open Go.Proofs.YtcelojkecfiocaaDoorW.PrintWords
open Go.Proofs.YtcelojkecfiocaaDoor.Play
variable {H : Type} {enc : TypeId × Value → H} {W : World} {d : DataW H} {p : List MemPlace}

theorem cells40 : Tryd.prog.cellsOf 40 = 3 := by kernel_rfl
theorem fld {fs : Array Field} {n : Nat} {cs : List Value} {xs : List (DataW H × List MemPlace)} (hone : Go.Deep.oneCellFields Tryd.prog fs = true)
    (h : ∀ (i : Nat) (f : Field), fs[i]? = some f → DataW.trod enc Tryd.prog W 0 (fun _ => true) true n f.type ((cs.drop f.offset).take (Tryd.prog.cellsOf f.type)) = xs[i]?) (i : Nat) (f : Field) (hf : fs[i]? = some f) :
    DataW.trod enc Tryd.prog W 0 (fun _ => true) true n f.type ((cs.drop i).take 1) = xs[i]? := by
  obtain ⟨o, k⟩ := Go.Deep.hone_of hone i f hf
  have := h i f hf
  rwa [o, k] at this
/-- One step's three cells. -/
theorem step_in {n : Nat} {cs : List Value} {y : DataW H × List MemPlace} (hlen : cs.length = 3) (h : DataW.trod enc Tryd.prog W 0 (fun _ => true) true n 40 cs = some y) :
    ∃ o : OpV, cs = [.int .i64 o.on, .int .i64 o.act, .slice o.A o.b.length o.c] ∧ ReadsOf eb 0 W o.A o.b.length o.b ∧ o.b.length ≤ Rows.uptoBulk y.1 := by
  obtain ⟨ys, n', _, hy, hcl, hyl, hfld⟩ := DataW.trod_struct Tryd.underlying40 h
  match cs, hlen with
  | [v0, v1, v2], _ =>
    match ys, hyl with
    | [y0, y1, y2], _ =>
      have f0 := fld (by kernel_rfl) hfld 0 _ rfl
      have f1 := fld (by kernel_rfl) hfld 1 _ rfl
      have f2 := fld (by kernel_rfl) hfld 2 _ rfl
      simp only [List.drop_zero, List.drop_succ_cons, List.take_succ_cons, List.take_zero, List.getElem?_cons_zero, List.getElem?_cons_succ] at f0 f1 f2
      obtain ⟨k0, e0, _, _⟩ := DataW.trod_int Tryd.underlying3 f0
      obtain ⟨k1, e1, _, _⟩ := DataW.trod_int Tryd.underlying3 f1
      have hv2 : ∃ A l c, v2 = .slice A l c := by
        rcases open_ints Tryd.underlying22 (by kernel_rfl : Tryd.prog.underlying 5 = some (.int .u8)) (by kernel_rfl) f2 with ⟨e, _⟩ | ⟨x, l, c, zs, e, _⟩
        · exact ⟨none, 0, 0, by simpa using e⟩
        · exact ⟨some x, l, c, by simpa using e⟩
      obtain ⟨A, l, c, rfl⟩ := hv2
      have hT : DataW.Trod enc Tryd.prog W 0 (fun _ => true) true 22 (.slice A l c) y2.1 y2.2 := ⟨n', f2⟩
      have hb := Arg.len_bulk (e := 5) (k := .u8) Tryd.underlying22 (by kernel_rfl) (by kernel_rfl) hT
      obtain ⟨b, rfl, hr, _⟩ := Arg.bytes_in hT
      refine ⟨⟨k0, k1, A, c, b⟩, ?_, hr, ?_⟩
      · simp at e0 e1
        rw [e0, e1]
      · rw [hy]
        simp only [List.map_cons, List.map_nil, Rows.uptoBulk, Rows.uptoBulkAll]
        show b.length ≤ _
        omega

theorem sum_le {D : Nat → DataW H} {f : Nat → OpV} : ∀ l : List Nat, (∀ i ∈ l, (f i).b.length ≤ Rows.uptoBulk (D i)) → ((l.map f).map fun o => o.b.length).sum ≤ Rows.uptoBulkAll (l.map D)
  | [], _ => by simp [Rows.uptoBulkAll]
  | i :: l, h => by
    have h1 := sum_le l (fun j hj => h j (List.mem_cons_of_mem _ hj))
    have h2 := h i (List.mem_cons_self ..)
    simp only [List.map_cons, List.sum_cons, Rows.uptoBulkAll]
    omega

theorem ops_in {a : Option Addr} {len cap : Nat} (h : DataW.Trod enc Tryd.prog W 0 (fun _ => true) true 36 (.slice a len cap) d p) :
    ∃ ops : List OpV, len = ops.length ∧ ReadsOps W a ops ∧ ops.length ≤ Rows.uptoBulk d ∧ (ops.map fun o => o.b.length).sum ≤ Rows.uptoBulk d := by
  obtain ⟨fuel, hf⟩ := h
  rcases Go.Deep.open_slice Tryd.underlying36 hf with ⟨hcs, _⟩ | ⟨x, l, c, m, n, D, Pl, hcs, _, hl, hm, hmm, hx, hi⟩
  · simp [Value.cells] at hcs
    obtain ⟨rfl, rfl, rfl⟩ := hcs
    exact ⟨[], rfl, fun j o h => by simp at h, by simp, by simp⟩
  · simp [Value.cells] at hcs
    obtain ⟨rfl, rfl, rfl⟩ := hcs
    obtain ⟨rfl, _⟩ := Prod.mk.inj hx
    simp at hmm
    have each : ∀ i, ∃ o : OpV, i < len → W.cell? (x.add (i * 3)) = some (.int .i64 o.on) ∧ W.cell? (x.add (i * 3 + 1)) = some (.int .i64 o.act) ∧ W.cell? (x.add (i * 3 + 2)) = some (.slice o.A o.b.length o.c) ∧ ReadsOf eb 0 W o.A o.b.length o.b ∧ o.b.length ≤ Rows.uptoBulk (D i) := by
      intro i
      by_cases hil : i < len
      · obtain ⟨cs', hc, ht⟩ := hi i (by omega)
        rw [cells40] at hc
        obtain ⟨_, hcl, hat⟩ := World.cells?_some hc
        obtain ⟨o, rfl, hr, hb⟩ := step_in hcl ht
        refine ⟨o, fun _ => ⟨?_, ?_, ?_, hr, hb⟩⟩
        · have := hat 0 (by omega)
          rw [Go.Deep.add_add] at this
          simpa using this
        · have := hat 1 (by omega)
          rw [Go.Deep.add_add] at this
          simpa using this
        · have := hat 2 (by omega)
          rw [Go.Deep.add_add] at this
          simpa using this
      · exact ⟨⟨0, 0, none, 0, []⟩, fun h => absurd h hil⟩
    have hE := fun i => (each i).choose_spec
    have hlen : ((List.range len).map fun i => (each i).choose).length = len := by simp
    have hbk := bulks.slice_elems (H := H) ((List.range len).map D) ((List.range (m - len)).map fun j => D (len + j))
    have hln := bulks.length_le (H := H) ((List.range len).map D)
    rw [List.length_map, List.length_range] at hln
    refine ⟨(List.range len).map fun i => (each i).choose, hlen.symm, ?_, by rw [hlen]; omega, ?_⟩
    · intro j o hj
      have hjl : j < len := by
        have := (List.getElem?_eq_some_iff.1 hj).1
        rwa [hlen] at this
      rw [List.getElem?_map, List.getElem?_range hjl] at hj
      simp only [Option.map_some, Option.some.injEq] at hj
      subst hj
      obtain ⟨h0, h1, h2, h3, _⟩ := hE j hjl
      exact ⟨x, rfl, h0, h1, h2, h3⟩
    · have := sum_le (D := D) (f := fun i => (each i).choose) (List.range len) (fun i hi => (hE i (List.mem_range.1 hi)).2.2.2.2)
      omega
end Go.Proofs.YtcelojkecfiocaaDoor.PlayArg
