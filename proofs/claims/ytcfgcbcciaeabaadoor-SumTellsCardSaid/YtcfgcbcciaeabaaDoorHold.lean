/- Rows that a law holds while its calls go on. -/
import Derived.Test.YtcfgcbcciaeabaaDoorOwned
import Derived.Test.YtcfgcbcciaeabaaDoorLent
import Derived.Test.YtcfgcbcciaeabaaDoorStr
namespace Go.Proofs.YtcfgcbcciaeabaaDoor.Hold
open Go.RowKit Go.Proofs.YtcfgcbcciaeabaaDoor.Bv Go.Proofs.YtcfgcbcciaeabaaDoor.Mem
open Go.Proofs.YtcfgcbcciaeabaaDoorW.PrintWords
open Go.Proofs.YtcfgcbcciaeabaaDoor.Obj (But)
open Go.Proofs.YtcfgcbcciaeabaaDoor.Owned (Own)

theorem reads_marked {w : World} {g : Nat} {l : List UInt8} (h : Arr w g 5 ((Lent.marked l).map eb)) (hn : l.length ≤ 9223372036854775807) : ReadsOf eb 0 w (some ⟨g, 0, none⟩) l.length l := by
  refine ⟨rfl, hn, fun _ => ⟨_, rfl, fun j hj => ?_⟩⟩
  rw [add_plain, h.cell]
  simp [Lent.marked, List.getElem?_append_left, hj]

theorem but_grown {g : Nat} {w w' : World} (h : But g w w') : w.grownBy w' (some g) := ⟨h.os, h.tape, h.output, h.size, fun k hk hne => h.block k hk (fun e => hne (by rw [e]))⟩
structure Hold (w W : World) (vs : List (Value × List UInt8)) : Prop where
  below : Below w.heap.size w W
  owns : ∀ p ∈ vs, W.ownsRow w.heap.size 5 1 p.1 p.2.length (encs eb p.2)
theorem Hold.zero (w : World) : Hold w w [] := ⟨Below.refl _ _, fun _ h => by cases h⟩
theorem Hold.on {w W W' : World} {vs : List (Value × List UInt8)} (h : Hold w W vs) (hb : Below W.heap.size W W') : Hold w W' vs :=
  ⟨h.below.trans (hb.mono h.below.size), fun p hp => pw_own_below (h.owns p hp) hb⟩
theorem Hold.but {w W W' : World} {vs : List (Value × List UInt8)} {g : Nat} (h : Hold w W vs) (hb : But g W W') (hg : w.heap.size ≤ g) (hne : ∀ p ∈ vs, p.1.ownBlock ≠ some g) : Hold w W' vs :=
  ⟨h.below.trans (hb.below hg h.below.size), fun p hp => World.ownsRow.kept (h.owns p hp) (but_grown hb) (.inr (hne p hp))⟩
theorem Hold.add {w W : World} {vs : List (Value × List UInt8)} (h : Hold w W vs) {B : Nat} {v : Value} {l : List UInt8} (ho : W.ownsRow B 5 1 v l.length (encs eb l)) (hB : w.heap.size ≤ B) : Hold w W ((v, l) :: vs) :=
  ⟨h.below, fun p hp => by
    rcases List.mem_cons.1 hp with rfl | hp
    · exact own_weaken ho hB
    · exact h.owns p hp⟩

def Done (w : World) (e : Ending) (w' : World) : Prop := e = .returned (.bool true) ∧ Below w.heap.size w w'
/-- The rows are the caller's own. -/
theorem Hold.owned {w W : World} {vs : List (Value × List UInt8)} (h : Hold w W vs) (hl : ∀ p ∈ vs, p.2.length ≤ 140737488355319) (hne : vs.Pairwise (fun a b => NeRow a.1 b.1)) (n : Nat) (hn : vs.length = n) (h1 : n ≤ 100)
    (C : Array Value) (hC : C = (vs.map (·.1)).toArray) : Calls Tryd.prog 23 #[.slice (some ⟨W.heap.size, 0, none⟩) n n] (W.alloc (.cells C 22)) (Done w) := by
  subst hn hC
  have hnew : (W.alloc (.cells (vs.map (·.1)).toArray 22)).heap[W.heap.size]? = some (.cells (vs.map (·.1)).toArray 22 (0, 0)) := heap_alloc_new W _
  have hbn : Below w.heap.size w (W.alloc (.cells (vs.map (·.1)).toArray 22)) := h.below.alloc h.below.size _
  refine (Owned.owned_any w.heap.size ⟨W.heap.size, 0, none⟩ vs.length vs.length (vs.map (·.1)) _ (by simp) (by omega) hbn.size ?_ ?_ ?_ ?_).mono ?_
  · intro j v hv
    rw [add_plain, cell_of_row _ _ j _ 22 (0, 0) hnew]
    simpa using hv
  · exact ⟨by simp, _, _, hnew⟩
  · intro j v hv
    obtain ⟨p, hp, rfl⟩ := List.mem_map.1 (List.mem_of_getElem? hv)
    exact ⟨p.2, hl p hp, World.ownsRow.alloc (h.owns p hp) _⟩
  · intro j k v u hjk hv hu
    rw [List.getElem?_map] at hv hu
    obtain ⟨p, hp, rfl⟩ := Option.map_eq_some_iff.1 hv
    obtain ⟨q, hq, rfl⟩ := Option.map_eq_some_iff.1 hu
    obtain ⟨hj1, hj2⟩ := List.getElem?_eq_some_iff.1 hp
    obtain ⟨hk1, hk2⟩ := List.getElem?_eq_some_iff.1 hq
    have := (List.pairwise_iff_getElem.1 hne) j k hj1 hk1 hjk
    rw [hj2, hk2] at this
    exact this
  rintro e w7 ⟨rfl, hb7⟩
  exact ⟨rfl, hbn.trans hb7⟩
/-- Blocks told apart by where they lie. -/
theorem ne_of_range {v u : Value} {a b : Nat} (hv : ∀ k, v.ownBlock = some k → k < a) (hu : ∀ k, u.ownBlock = some k → b ≤ k) (h : a ≤ b) : NeRow v u := fun k e e2 => by
  have h1 := hv k e
  have h2 := hu k e2
  omega
end Go.Proofs.YtcfgcbcciaeabaaDoor.Hold
