/- seal.mac and seal.Mac: the digest of bytes under a secret. Conditions: lengths below 2^47. -/
import Derived.Test.YtcelojkecfiocaaDoorUnder
namespace Go.Proofs.YtcelojkecfiocaaDoor.Mac
open Go.RowKit Go.Proofs.YtcelojkecfiocaaDoor.Bv Go.Proofs.YtcelojkecfiocaaDoor.Mem
open Go.Proofs.YtcelojkecfiocaaDoorW.PrintWords
open Go.Proofs.YtcelojkecfiocaaDoor.Changed (Tabs)
open Go.Proofs.YtcelojkecfiocaaDoor.Pad (sb pad pad_length sb_length)
open Go.Proofs.YtcelojkecfiocaaDoor.Under (turned)

theorem tb54 : tb 54 = 54 := by decide
theorem tb92 : tb 92 = 92 := by decide
/-- What bytes come to under a secret. -/
def mac (k l : List UInt8) : List UInt8 := Sha.sha (turned (pad k) 92 ++ Sha.sha (turned (pad k) 54 ++ l))
theorem mac_length (k l : List UInt8) : (mac k l).length = 32 := Sha.sha_length _

set_option maxRecDepth 100000 in
set_option maxHeartbeats 800000 in
theorem mac_any (s : ByteArray) (A : Option Addr) (n c : Nat) (l : List UInt8) (w : World) (hT : Tabs w) (hs : s.size ≤ 140737488351232) (hr : ReadsOf eb 0 w A n l) (hn : n ≤ 140737488351232) :
    Calls Tryd.prog 40 #[.string s, .slice A n c] w (RefFilled.Post w (mac (sb s) l)) := by
  obtain rfl := hr.1
  go_enter Tryd.func40, Tryd.ntmps40
  go_wp2_with fail
  refine (Pad.pad_any s w hT hs).mono ?_
  rintro e w1 ⟨g, rfl, hge, ha, hb1⟩
  have hT1 := hT.below hb1
  have hr1 := hr.below hb1
  have hq := heap_alloc_new w1 (.cells #[.slice (some ⟨g, 0, none⟩) 64 64] 22)
  have hbn : Below w1.heap.size w1 (w1.alloc (.cells #[.slice (some ⟨g, 0, none⟩) 64 64] 22)) := (Below.refl _ _).alloc (Nat.le_refl _) _
  have hT2 := hT1.below hbn
  have hr2 := hr1.below hbn
  have ha2 := ha.below hbn
  have hb2 := hb1.trans (hbn.mono hb1.size)
  have hPl := pad_length (sb s)
  clear ha hT1 hr1 hb1 hbn
  have hu := Under.under_any 54 w1.heap.size g (pad (sb s)) A c l _ hT2 hPl hq ha2 hr2 hn
  rw [tb54] at hu
  have hu' := Lib.hid hu
  clear hu
  go_wp2_with fail
  refine hu'.out.mono ?_
  rintro e w3 ⟨v, rfl, ho, hb3⟩
  have hT3 := hT2.below hb3
  have ha3 := ha2.below hb3
  have hq3 := (hb3.block w1.heap.size (by simp)).trans hq
  have hB3 := hb2.trans (hb3.mono hb2.size)
  obtain ⟨A3, c3, rfl, _, hr3⟩ := own_reads_of_le (d := (0 : UInt8)) ho
  obtain ⟨D, hD⟩ : ∃ D, D = Sha.sha (turned (pad (sb s)) 54 ++ l) := ⟨_, rfl⟩
  rw [← hD] at hr3 ⊢
  have hDl : D.length = 32 := by rw [hD]; exact Sha.sha_length _
  have hD' := Lib.hid hD
  clear ho hb3 hq ha2 hT2 hr2 hb2 hD
  rw [hDl] at hr3 ⊢
  have hu := Under.under_any 92 w1.heap.size g (pad (sb s)) A3 c3 D w3 hT3 hPl hq3 ha3 (by rw [hDl]; exact hr3) (by omega)
  rw [tb92, hDl] at hu
  have hu2 := Lib.hid hu
  clear hu
  go_wp2_with fail
  refine hu2.out.mono ?_
  rintro e w4 ⟨v, rfl, ho, hb4⟩
  go_wp2_with fail
  go_ret
  rw [hD'.out] at ho
  exact ⟨v, rfl, own_weaken ho hB3.size, hB3.trans (hb4.mono hB3.size)⟩

set_option maxRecDepth 100000 in
theorem may_any (s : ByteArray) (w : World) (hs : s.size ≤ 9223372036854775807) : Calls Tryd.prog 39 #[.string s] w fun e w' => e = .returned (.bool (decide (s.size ≤ 200))) ∧ w = w' := by
  go_enter Tryd.func39, Tryd.ntmps39
  go_wp2_with fail
  go_ret
  refine ⟨?_, rfl⟩
  simp
  omega

/-- The digest, or a refusal. -/
def MacPost (k l : List UInt8) (w : World) (e : Ending) (w' : World) : Prop :=
  (k.length ≤ 200 ∧ ∃ v, e = .returned (.tuple #[v, .int .i64 0]) ∧ w'.ownsRow w.heap.size 5 1 v (mac k l).length (encs eb (mac k l)) ∧ Below w.heap.size w w') ∨
  (200 < k.length ∧ e = .returned (.tuple #[.slice none 0 0, .int .i64 2]) ∧ Below w.heap.size w w')

set_option maxRecDepth 100000 in
set_option maxHeartbeats 800000 in
theorem macx_any (s : ByteArray) (A : Option Addr) (n c : Nat) (l : List UInt8) (w : World) (hT : Tabs w) (hs : s.size ≤ 140737488351232) (hr : ReadsOf eb 0 w A n l) (hn : n ≤ 140737488351232) :
    Calls Tryd.prog 25 #[.string s, .slice A n c] w (MacPost (sb s) l w) := by
  have hsl := sb_length s
  go_enter Tryd.func25, Tryd.ntmps25
  go_wp2_with fail
  refine (may_any s w (by omega)).mono ?_
  rintro e w1 ⟨rfl, rfl⟩
  by_cases h : s.size ≤ 200
  · rw [decide_eq_true h]
    go_wp2_with fail
    refine (mac_any s A n c l w hT hs hr hn).mono ?_
    rintro e w1 ⟨v, rfl, ho, hb⟩
    go_wp2_with fail
    go_ret2
    exact .inl ⟨by omega, v, rfl, ho, hb⟩
  · rw [decide_eq_false h]
    go_wp2_with fail
    go_ret2
    exact .inr ⟨by omega, rfl, Below.refl _ _⟩
end Go.Proofs.YtcelojkecfiocaaDoor.Mac
