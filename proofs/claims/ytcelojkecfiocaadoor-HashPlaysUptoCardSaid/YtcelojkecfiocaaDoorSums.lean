/- HashSums: the digest of any bytes is the reference's; what is handed in stays; what comes back is the caller's own. -/
import Derived.Test.YtcelojkecfiocaaDoorAwake
import Derived.Test.YtcelojkecfiocaaDoorLent
import Derived.Test.YtcelojkecfiocaaDoorOwned
import Derived.Test.YtcelojkecfiocaaDoorRefSum
namespace Go.Proofs.YtcelojkecfiocaaDoor.Sums
open Go.RowKit Go.Proofs.YtcelojkecfiocaaDoor.Bv Go.Proofs.YtcelojkecfiocaaDoor.Mem
open Go.Proofs.YtcelojkecfiocaaDoorW.PrintWords
open Go.Proofs.YtcelojkecfiocaaDoor.Changed (Tabs RTabs)
open Go.Proofs.YtcelojkecfiocaaDoor.Obj
open Go.Proofs.YtcelojkecfiocaaDoor.Str
open Go.Proofs.YtcelojkecfiocaaDoor.Owned (Own)

theorem reads_marked {w : World} {g : Nat} {l : List UInt8} (h : Arr w g 5 ((Lent.marked l).map eb)) (hn : l.length ≤ 9223372036854775807) : ReadsOf eb 0 w (some ⟨g, 0, none⟩) l.length l := by
  refine ⟨rfl, hn, fun _ => ⟨_, rfl, fun j hj => ?_⟩⟩
  rw [add_plain, h.cell]
  simp [Lent.marked, List.getElem?_append_left, hj]

theorem but_grown {g : Nat} {w w' : World} (h : But g w w') : w.grownBy w' (some g) := ⟨h.os, h.tape, h.output, h.size, fun k hk hne => h.block k hk (fun e => hne (by rw [e]))⟩
theorem But.tabs' {g : Nat} {w w' : World} (h : But g w w') (hT : Tabs w) (hR : RTabs w) (hg : 4 ≤ g) : Tabs w' ∧ RTabs w' := ⟨h.tabs hT hg, h.rtabs hR hg⟩

def Post (w : World) (e : Ending) (w' : World) : Prop := e = .returned (.bool true) ∧ Below w.heap.size w w'

set_option maxRecDepth 100000 in
set_option maxHeartbeats 800000 in
theorem sums_any (A : Option Addr) (c : Nat) (l : List UInt8) (w : World) (hT : Tabs w) (hR : RTabs w) (hr : ReadsOf eb 0 w A l.length l) (hn : l.length ≤ 140737488351232) :
    Calls Tryd.prog 3 #[.slice A l.length c] w (Post w) := by
  have hAlt := reads_lt hr
  go_enter Tryd.func3, Tryd.ntmps3
  go_wp2_with fail
  refine (Awake.awake_any w hT).mono ?_
  rintro e w1 ⟨rfl, hb1⟩
  have hT1 := hT.below hb1
  have hR1 := hR.below hb1
  have hr1 := hr.below hb1
  go_wp2_with fail
  refine (Lent.lent_any A c l w1 hr1 hn).mono ?_
  rintro e w2 ⟨rfl, ha, hb2⟩
  have hT2 := hT1.below hb2
  have hR2 := hR1.below hb2
  have hg4 : 4 ≤ w1.heap.size := hT1.size
  have hgA : ∀ a, A = some a → 0 < l.length → a.block ≠ w1.heap.size := fun a e h0 => by
    have := hAlt h0 a e
    have := hb1.size
    omega
  have hlt2 := ha.lt
  replace hb2 := hb1.trans (hb2.mono hb1.size)
  have hg := hb1.size
  have hw2 := hb2.size
  clear hT1 hR1 hr1 hb1 hAlt
  generalize w1.heap.size = g at ha hg4 hgA hlt2 hg ⊢
  have hrd := reads_marked ha (by omega)
  go_wp2_with fail
  refine (Clone.hashsum_any (some ⟨g, 0, none⟩) l.length (l.length + 3) l w2 hT2 hrd hn).mono ?_
  rintro e w3 ⟨x, rfl, hx, hb3⟩
  have hT3 := hT2.below hb3
  have hR3 := hR2.below hb3
  have ha3 := ha.below hb3
  have hrd3 := hrd.below hb3
  have hs3 := hb3.size
  replace hb3 := hb2.trans (hb3.mono hb2.size)
  clear hb2 hT2 hR2 ha hrd
  go_wp2_with fail
  refine (Clone.hashsum_any (some ⟨g, 0, none⟩) l.length (l.length + 3) l w3 hT3 hrd3 hn).mono ?_
  rintro e w4 ⟨y, rfl, hy, hb4⟩
  have hT4 := hT3.below hb4
  have hR4 := hR3.below hb4
  have ha4 := ha3.below hb4
  have hx4 := pw_own_below hx hb4
  have hs4 := hb4.size
  replace hb4 := hb3.trans (hb4.mono hb3.size)
  have hr4 := hr.below hb4
  clear hb3 hT3 hR3 ha3 hrd3
  go_wp2_with fail
  refine (Lent.back_any g A c l w4 ha4 hr4 hgA hn).mono ?_
  rintro e w5 ⟨rfl, hb5⟩
  obtain ⟨hT5, hR5⟩ := But.tabs' hb5 hT4 hR4 hg4
  have hr5 := Lent.reads_but hb5 hgA hr4
  have hs5 := hb5.size
  have hxg : ∀ k, x.ownBlock = some k → w2.heap.size ≤ k ∧ k < w3.heap.size := fun k e => hx.lt k e
  have hyg : ∀ k, y.ownBlock = some k → w3.heap.size ≤ k := fun k e => (hy.lt k e).1
  have hx5 := World.ownsRow.kept hx4 (but_grown hb5) (by
    right
    intro e
    have := hxg g e
    omega)
  have hy5 := World.ownsRow.kept hy (but_grown hb5) (by
    right
    intro e
    have := hyg g e
    omega)
  have hB5 : Below w.heap.size w w5 := hb4.trans (hb5.below hg hb4.size)
  clear hT4 hR4 ha4 hr4 hb5 hx4 hy hx hb4
  go_wp2_with fail
  refine (RefSum.sum_any A l.length c l w5 hR5 hr5 (by omega)).mono ?_
  rintro e w6 ⟨z, rfl, hz, hb6⟩
  have hx6 := pw_own_below hx5 hb6
  have hy6 := pw_own_below hy5 hb6
  have hs6 := hb6.size
  have hB6 := hB5.trans (hb6.mono hB5.size)
  obtain ⟨D, hD⟩ : ∃ D, D = Sha.sha l := ⟨_, rfl⟩
  have hDl : D.length = 32 := by rw [hD]; exact Sha.sha_length _
  rw [← hD] at hx6 hy6 hz
  clear hx5 hy5 hb6 hT5 hR5 hr5 hB5 hD
  have hxw : Own w.heap.size w6 x D := own_weaken hx6 hw2
  have hyw : Own w.heap.size w6 y D := own_weaken hy6 (by omega)
  have hne : NeRow x y := fun k e e2 => by
    have h1 := hxg k e
    have h2 := hyg k e2
    omega
  obtain ⟨Ax, cx, rfl, _, hrx⟩ := own_reads_of_le (d := (0 : UInt8)) hx6
  obtain ⟨Ay, cy, rfl, _, hry⟩ := own_reads_of_le (d := (0 : UInt8)) hy6
  obtain ⟨Az, cz, rfl, _, hrz⟩ := own_reads_of_le (d := (0 : UInt8)) hz
  rw [hDl] at hrx hry hrz hxw hyw hne ⊢
  have sx := string_of (c := cx) hrx
  have sy := string_of (c := cy) hry
  have sz := string_of (c := cz) hrz
  have hxw' := Lib.hid hxw
  have hyw' := Lib.hid hyw
  have hne' := Lib.hid hne
  clear hxw hyw hne hrx hry hrz hxg hyg hx6 hy6 hz
  go_wp2_with fail
  have hD32 := hDl
  have hnew : (w6.alloc (.cells #[Value.slice Ax 32 cx, Value.slice Ay 32 cy] 22)).heap[w6.heap.size]? = some (.cells #[Value.slice Ax 32 cx, Value.slice Ay 32 cy] 22 (0, 0)) := heap_alloc_new w6 _
  have hbn : Below w.heap.size w (w6.alloc (.cells #[Value.slice Ax 32 cx, Value.slice Ay 32 cy] 22)) := hB6.alloc hB6.size _
  have hvs : ∀ (j : Nat) (v : Value), [Value.slice Ax 32 cx, Value.slice Ay 32 cy][j]? = some v → (j = 0 ∧ v = .slice Ax 32 cx) ∨ (j = 1 ∧ v = .slice Ay 32 cy) := by
    intro j v hv
    match j with
    | 0 => simp at hv; exact .inl ⟨rfl, hv.symm⟩
    | 1 => simp at hv; exact .inr ⟨rfl, hv.symm⟩
    | j + 2 => simp at hv
  refine (Owned.owned_any w.heap.size ⟨w6.heap.size, 0, none⟩ 2 2 [.slice Ax 32 cx, .slice Ay 32 cy] _ rfl (by omega) hbn.size ?_ ?_ ?_ ?_).mono ?_
  · intro j v hv
    rw [add_plain, cell_of_row _ _ j _ 22 (0, 0) hnew]
    simpa using hv
  · exact ⟨by simp, _, _, hnew⟩
  · intro j v hv
    rcases hvs j v hv with ⟨_, rfl⟩ | ⟨_, rfl⟩
    · exact ⟨D, by omega, World.ownsRow.alloc hxw'.out _⟩
    · exact ⟨D, by omega, World.ownsRow.alloc hyw'.out _⟩
  · intro j k v u hjk hv hu
    rcases hvs j v hv with ⟨rfl, rfl⟩ | ⟨rfl, rfl⟩
    · rcases hvs k u hu with ⟨rfl, rfl⟩ | ⟨rfl, rfl⟩
      · omega
      · exact hne'.out
    · rcases hvs k u hu with ⟨rfl, rfl⟩ | ⟨rfl, rfl⟩ <;> omega
  rintro e w7 ⟨rfl, hb7⟩
  go_wp2_with fail
  go_ret
  exact ⟨rfl, hbn.trans hb7⟩
end Go.Proofs.YtcelojkecfiocaaDoor.Sums
