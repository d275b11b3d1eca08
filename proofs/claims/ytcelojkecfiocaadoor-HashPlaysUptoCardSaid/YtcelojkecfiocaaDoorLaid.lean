/- What a row's list of package-level variables gives: the tables stand in their blocks. -/
import Derived.Test.YtcelojkecfiocaaDoorRows
import Derived.Test.YtcelojkecfiocaaDoorChanged
import Derived.Lib.LaidTab
namespace Go.Proofs.YtcelojkecfiocaaDoor.Laid
open Go.RowKit Go.Proofs.YtcelojkecfiocaaDoor.Bv Go.Proofs.YtcelojkecfiocaaDoor.Mem
open Go.Proofs.YtcelojkecfiocaaDoor.Changed (Tabs RTabs)

def Reads (W : World) (n : String) (d : DataW Unit) : Prop :=
  ∃ g t cs fuel p, Tryd.prog.globalNamed n = some g ∧ (Tryd.prog.globals[g]?).map (·.type) = some t ∧ W.var? Tryd.prog n = some cs ∧ DataW.trod (fun _ => ()) Tryd.prog W 0 (fun _ => true) false fuel t cs.toList = some (d, p)

theorem reads_in {w : World} : ∀ {l : List (String × DataW Unit)} {ps : List MemPlace}, DataW.LaidVars Tryd.prog w l ps → ∀ n d, (n, d) ∈ l → Reads w n d
  | [], _, _, _, _, hm => by cases hm
  | (n', d') :: r, ps, h, n, d, hm => by
    obtain ⟨g, t, cs, fuel, p, q, h1, h2, h3, h4, h5, _⟩ := h
    rcases List.mem_cons.1 hm with e | e
    · cases e
      exact ⟨g, t, cs, fuel, p, h1, h2, h3, h4⟩
    · exact reads_in h5 n d e
theorem reads_met {w : World} {l : List (String × DataW Unit)} (h : laidMet Tryd.prog l w) {n : String} {d : DataW Unit} (hm : (n, d) ∈ l) : Reads w n d :=
  let ⟨_, hv, _⟩ := h
  reads_in hv n d hm

/-- A table of words that is listed stands in its block. -/
theorem stands {W : World} {n : String} {L : List (BitVec 32)} {g t N : Nat} (hg : Tryd.prog.globalNamed n = some g) (hty : (Tryd.prog.globals[g]?).map (·.type) = some t) (ht : Tryd.prog.underlying t = some (.array N 54)) (hct : Tryd.prog.cellsOf t = N)
    (h : Reads W n (Lib.tabData .u32 (L.map tn))) : ∃ T fr, W.heap[g]? = some (.cells (L.map eu).toArray T fr) := by
  obtain ⟨g', t', cs, fuel, p, hg', ht', hvar, hd⟩ := h
  obtain rfl := Option.some.inj (hg.symm.trans hg')
  obtain rfl := Option.some.inj (hty.symm.trans ht')
  have hcs := Lib.cells_of_tab ht (by kernel_rfl) (by kernel_rfl) hct hd
  unfold World.var? at hvar
  rw [hg] at hvar
  simp only [Option.bind_some] at hvar
  split at hvar
  · rename_i c T fr he
    refine ⟨T, fr, ?_⟩
    rw [he]
    injection hvar with hvar
    subst hvar
    have : c = (L.map eu).toArray := by
      apply Array.ext'
      rw [hcs]
      simp [Function.comp_def]
    rw [this]
  · cases hvar

theorem size4 {W : World} (h : ∃ t fr, W.heap[3]? = some (.cells (Sha.ks.map eu).toArray t fr)) : 4 ≤ W.heap.size := by
  obtain ⟨t, fr, h⟩ := h
  have := (Array.getElem?_eq_some_iff.1 h).1
  omega

/-- The hash's two tables, where just these are listed. -/
theorem tabs2 {W : World} (h : laidMetH Tryd.prog [("farebox/hash.start", Rows.laid_farebox_hash_start), ("farebox/hash.rounds", Rows.laid_farebox_hash_rounds)] W) : Tabs W := by
  have h1 : laidMet Tryd.prog [("farebox/hash.start", Lib.tabData .u32 (Sha.iv.map tn)), ("farebox/hash.rounds", Lib.tabData .u32 (Sha.ks.map tn))] W := h
  have hs := stands (g := 1) (t := 57) (N := 8) (by kernel_rfl) (by kernel_rfl) (by kernel_rfl) (by kernel_rfl) (reads_met h1 (.head _))
  have hr := stands (g := 3) (t := 68) (N := 64) (by kernel_rfl) (by kernel_rfl) (by kernel_rfl) (by kernel_rfl) (reads_met h1 (.tail _ (.head _)))
  exact ⟨hs, hr, size4 hr⟩
/-- All four. -/
theorem tabs4 {W : World} (h : laidMetH Tryd.prog [("farebox/fareboxref03.first", Rows.laid_farebox_fareboxref03_first), ("farebox/fareboxref03.k", Rows.laid_farebox_fareboxref03_k), ("farebox/hash.start", Rows.laid_farebox_hash_start), ("farebox/hash.rounds", Rows.laid_farebox_hash_rounds)] W) : Tabs W ∧ RTabs W := by
  have h1 : laidMet Tryd.prog [("farebox/fareboxref03.first", Lib.tabData .u32 (Sha.iv.map tn)), ("farebox/fareboxref03.k", Lib.tabData .u32 (Sha.ks.map tn)), ("farebox/hash.start", Lib.tabData .u32 (Sha.iv.map tn)), ("farebox/hash.rounds", Lib.tabData .u32 (Sha.ks.map tn))] W := h
  have hf := stands (g := 0) (t := 55) (N := 8) (by kernel_rfl) (by kernel_rfl) (by kernel_rfl) (by kernel_rfl) (reads_met h1 (.head _))
  have hk := stands (g := 2) (t := 68) (N := 64) (by kernel_rfl) (by kernel_rfl) (by kernel_rfl) (by kernel_rfl) (reads_met h1 (.tail _ (.head _)))
  have hs := stands (g := 1) (t := 57) (N := 8) (by kernel_rfl) (by kernel_rfl) (by kernel_rfl) (by kernel_rfl) (reads_met h1 (.tail _ (.tail _ (.head _))))
  have hr := stands (g := 3) (t := 68) (N := 64) (by kernel_rfl) (by kernel_rfl) (by kernel_rfl) (by kernel_rfl) (reads_met h1 (.tail _ (.tail _ (.tail _ (.head _)))))
  exact ⟨⟨hs, hr, size4 hr⟩, ⟨hf, hk, size4 hr⟩⟩

/-- A world for the witnesses: the settled one, the tables holding what their initialisers lay. -/
def put (L : List (BitVec 32)) : Obj → Obj
  | .cells _ t frozen => .cells (L.map eu).toArray t frozen
  | o => o
noncomputable def laidWorld (os : Os) : World :=
  { World.holding Tryd.prog os ⟨#[], #[], []⟩ with heap := ((((World.holding Tryd.prog os ⟨#[], #[], []⟩).heap.modify 0 (put Sha.iv)).modify 1 (put Sha.iv)).modify 2 (put Sha.ks)).modify 3 (put Sha.ks) }
end Go.Proofs.YtcelojkecfiocaaDoor.Laid
