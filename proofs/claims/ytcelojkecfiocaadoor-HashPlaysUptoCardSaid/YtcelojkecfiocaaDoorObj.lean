/- A hash in memory: what it holds that has taken some bytes; hash.New and Len. Conditions: the tables hold their constants. -/
import Derived.Test.YtcelojkecfiocaaDoorChanged
import Derived.Outline
namespace Go.Proofs.YtcelojkecfiocaaDoor.Obj
open Go.RowKit Go.Proofs.YtcelojkecfiocaaDoor.Bv Go.Proofs.YtcelojkecfiocaaDoor.Mem
open Go.Proofs.YtcelojkecfiocaaDoorW.PrintWords
open Go.Proofs.YtcelojkecfiocaaDoor.Changed (Tabs RTabs list8)

/-- All that was there is as it was, but for block p. -/
structure But (p : Nat) (w w' : World) : Prop where
  os : w'.os = w.os
  tape : w'.tape = w.tape
  output : w'.output = w.output
  size : w.heap.size ≤ w'.heap.size
  block : ∀ k, k < w.heap.size → k ≠ p → w'.heap[k]? = w.heap[k]?
theorem But.refl (p : Nat) (w : World) : But p w w := ⟨rfl, rfl, rfl, Nat.le_refl _, fun _ _ _ => rfl⟩
theorem But.trans {p : Nat} {a b c : World} (h : But p a b) (k : But p b c) : But p a c :=
  ⟨k.os.trans h.os, k.tape.trans h.tape, k.output.trans h.output, Nat.le_trans h.size k.size, fun i hi hp => (k.block i (Nat.lt_of_lt_of_le hi h.size) hp).trans (h.block i hi hp)⟩
theorem But.of_below {p : Nat} {w w' : World} (h : Below w.heap.size w w') : But p w w' := ⟨h.os, h.tape, h.output, h.size, fun i hi _ => h.block i hi⟩
theorem But.below {p B : Nat} {w w' : World} (h : But p w w') (hB : B ≤ p) (hs : B ≤ w.heap.size) : Below B w w' := ⟨h.os, h.tape, h.output, h.size, fun i hi => h.block i (by omega) (by omega)⟩
theorem But.setCell {p : Nat} {w w1 : World} (h : But p w w1) (i : Nat) (v : Value) : But p w (w1.setCell ⟨p, i, none⟩ v) :=
  h.trans ⟨rfl, rfl, rfl, by simp [World.setCell], fun k _ hp => Below.heap_setCell _ _ _ _ hp⟩
theorem But.drewN {p : Nat} {w w1 : World} (h : But p w w1) (n : Nat) : But p w (w1.drewN n) := ⟨h.os, h.tape, h.output, h.size, h.block⟩
theorem But.low {p : Nat} {w w1 : World} (h : But p w w1) (hs : 4 ≤ w.heap.size) (hp : 4 ≤ p) (g : Nat) (hg : g < 4) : w1.heap[g]? = w.heap[g]? := h.block g (by omega) (by omega)
theorem But.tabs {p : Nat} {w w1 : World} (h : But p w w1) (hT : Tabs w) (hp : 4 ≤ p) : Tabs w1 := hT.heap (h.low hT.size hp) h.size
theorem But.rtabs {p : Nat} {w w1 : World} (h : But p w w1) (hT : RTabs w) (hp : 4 ≤ p) : RTabs w1 := hT.heap (h.low hT.size hp) h.size

/-- The cells of a hash. -/
def cellsOf (X : List (BitVec 32)) (v : Value) (n : Nat) : List Value := X.map eu ++ [v, .int .i64 (n : Int)]
/-- Block p is a hash that has taken the bytes m. -/
structure HashAt (w : World) (p : Nat) (m : List UInt8) : Prop where
  ex : ∃ A c, Arr w p 59 (cellsOf (Sha.kept m) (.slice A (Sha.rest m).length c) m.length) ∧ ReadsOf eb 0 w A (Sha.rest m).length (Sha.rest m)
  old : 4 ≤ p
theorem HashAt.lt {w : World} {p : Nat} {m : List UInt8} (h : HashAt w p m) : p < w.heap.size := by
  obtain ⟨A, c, h1, _⟩ := h.ex
  exact h1.lt
theorem HashAt.below {w w' : World} {p : Nat} {m : List UInt8} (h : HashAt w p m) (hb : Below w.heap.size w w') : HashAt w' p m := by
  obtain ⟨A, c, h1, h2⟩ := h.ex
  exact ⟨⟨A, c, h1.below hb, h2.below hb⟩, h.old⟩
/-- No byte stands in a hash's own block. -/
theorem cells_no_byte (X : List (BitVec 32)) (A : Option Addr) (k c n i : Nat) (b : UInt8) : (cellsOf X (.slice A k c) n)[i]? ≠ some (eb b) := by
  intro h
  have hm := List.mem_of_getElem? h
  simp only [cellsOf, List.mem_append, List.mem_map, List.mem_cons, List.not_mem_nil, or_false] at hm
  rcases hm with ⟨x, _, hx⟩ | hx | hx
  · simp only [Value.int.injEq] at hx; exact absurd hx.1 (by decide)
  · cases hx
  · simp only [Value.int.injEq] at hx; exact absurd hx.1 (by decide)
/-- A hash is not touched by what is done to another one. -/
theorem HashAt.other {w w' : World} {p q : Nat} {m k : List UInt8} (h : HashAt w q m) (hp : HashAt w p k) (hb : But p w w') (hne : q ≠ p) : HashAt w' q m := by
  obtain ⟨A, c, h1, h2⟩ := h.ex
  obtain ⟨A', c', h3, _⟩ := hp.ex
  refine ⟨⟨A, c, (hb.block q h1.lt hne).trans h1, h2.1, h2.2.1, fun hn => ?_⟩, h.old⟩
  obtain ⟨ad, e, hc⟩ := h2.2.2 hn
  refine ⟨ad, e, fun j hj => ?_⟩
  have hcj := hc j hj
  have hl := World.block_lt_of_cell? w _ hcj
  have hblk : (ad.add j).block = ad.block := by unfold Addr.add; split <;> rfl
  have hnp : ad.block ≠ p := by
    intro hep
    have hs : (ad.add j).spot = none ∨ (ad.add j).spot ≠ none := Classical.em _
    rcases hs with hs | hs
    · have e2 : ad.add j = ⟨p, (ad.add j).off, none⟩ := by
        rw [← hep, ← hblk, ← hs]
      rw [e2, h3.cell] at hcj
      exact cells_no_byte _ _ _ _ _ _ _ hcj
    · have hsm : (ad.add j).spot.isSome = true := by
        cases hq : (ad.add j).spot with
        | none => exact absurd hq hs
        | some _ => rfl
      unfold World.cell? at hcj
      split at hcj
      · rw [if_pos hsm] at hcj; cases hcj
      · cases hcj
  rw [← hcj]
  exact World.cell?_of_block (hb.block _ hl (by rw [hblk]; exact hnp))


def NewPost (w : World) (e : Ending) (w' : World) : Prop :=
  e = .returned (.pointer (some ⟨w.heap.size, 0, none⟩)) ∧ HashAt w' w.heap.size [] ∧ Below w.heap.size w w'

set_option maxRecDepth 100000 in
set_option maxHeartbeats 400000 in
theorem new_any (w : World) (hT : Tabs w) : Calls Tryd.prog 19 #[] w (NewPost w) := by
  obtain ⟨t0, fr0, hstart⟩ := hT.start
  have hc : ∀ i, w.cell? ⟨1, i, none⟩ = (Sha.iv.map eu)[i]? := fun i => by rw [cell_of_row w 1 i _ t0 fr0 hstart]; simp
  have c0 := hc 0
  have c1 := hc 1
  have c2 := hc 2
  have c3 := hc 3
  have c4 := hc 4
  have c5 := hc 5
  have c6 := hc 6
  have c7 := hc 7
  simp only [Sha.iv, List.map_cons, List.map_nil, List.getElem?_cons_zero, List.getElem?_cons_succ] at c0 c1 c2 c3 c4 c5 c6 c7
  clear hc hstart
  go_enter Tryd.func19, Tryd.ntmps19
  go_wp2
  go_ret
  refine ⟨rfl, ⟨⟨none, 0, Arr.new w 59 (cellsOf Sha.iv (.slice none 0 0) 0), rfl, Nat.zero_le _, fun h => absurd h (by decide)⟩, hT.size⟩, (Below.refl _ _).alloc (Nat.le_refl _) _⟩

set_option maxRecDepth 100000 in
set_option maxHeartbeats 400000 in
theorem len_any (p : Nat) (m : List UInt8) (w : World) (h : HashAt w p m) : Calls Tryd.prog 22 #[.pointer (some ⟨p, 0, none⟩)] w fun e w' => e = .returned (.int .i64 (m.length : Int)) ∧ w = w' := by
  obtain ⟨A, c, h1, _⟩ := h.ex
  have h9 : w.cell? ⟨p, 9, none⟩ = some (.int .i64 (m.length : Int)) := by
    obtain ⟨a0, a1, a2, a3, a4, a5, a6, a7, h8⟩ := list8 (Sha.kept m) (Sha.kept_length m)
    rw [h1.cell, h8]; rfl
  clear h1
  go_enter Tryd.func22, Tryd.ntmps22
  go_wp2
  go_ret
  exact ⟨rfl, rfl⟩
end Go.Proofs.YtcelojkecfiocaaDoor.Obj
