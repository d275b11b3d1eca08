/- The inner function of seal.mac: the digest of the pad, each byte turned, and bytes behind it. -/
import Derived.Test.YtcelojkecfiocaaDoorPad
import Derived.Laws.BitsAllLaws
namespace Go.Proofs.YtcelojkecfiocaaDoor.Under
open Go.RowKit Go.Proofs.YtcelojkecfiocaaDoor.Bv Go.Proofs.YtcelojkecfiocaaDoor.Mem
open Go.Proofs.YtcelojkecfiocaaDoorW.PrintWords
open Go.Proofs.YtcelojkecfiocaaDoor.Changed (Tabs)
open Go.Proofs.YtcelojkecfiocaaDoor.Obj
open Go.Proofs.YtcelojkecfiocaaDoor.Str
open Go.Proofs.YtcelojkecfiocaaDoor.HSum (reads_new)

theorem xor_tb (a b : UInt8) : bits .xor .u8 (tb a) (tb b) = tb (a ^^^ b) := by
  have h := u8_xor_nat a.toNat b.toNat a.toNat_lt b.toNat_lt
  unfold tb
  rw [h, UInt8.toNat_xor]

/-- The pad, each byte turned by x. -/
def turned (P : List UInt8) (x : UInt8) : List UInt8 := P.map (· ^^^ x)
theorem turned_take (P : List UInt8) (x : UInt8) (i : Nat) (h : i < P.length) : turned (P.take (i + 1)) x = turned (P.take i) x ++ [Sha.b8 P i ^^^ x] := by
  unfold turned
  rw [List.take_succ_eq_append_getElem h, List.map_append]
  simp [Sha.b8, List.getElem?_eq_getElem h]

structure Rel (p q g : Nat) (w wr : World) (P : List UInt8) (x : UInt8) (i : Nat) : Prop where
  below : Below w.heap.size w wr
  hash : HashAt wr p (turned (P.take i) x)
  tabs : Tabs wr
  row : Arr wr g 5 (P.map eb)

set_option maxRecDepth 100000 in
set_option maxHeartbeats 800000 in
theorem under_any (x : UInt8) (q g : Nat) (P : List UInt8) (A : Option Addr) (c : Nat) (l : List UInt8) (w : World) (hT : Tabs w) (hP : P.length = 64) (hq : w.heap[q]? = some (.cells #[.slice (some ⟨g, 0, none⟩) 64 64] 22 (0, 0))) (hg : Arr w g 5 (P.map eb))
    (hr : ReadsOf eb 0 w A l.length l) (hn : l.length ≤ 140737488351232) :
    Calls Tryd.prog 47 #[.int .u8 (tb x), .slice A l.length c, .pointer (some ⟨q, 0, none⟩)] w (RefFilled.Post w (Sha.sha (turned P x ++ l))) := by
  have hglt := hg.lt
  have hqlt : q < w.heap.size := (Array.getElem?_eq_some_iff.1 hq).1
  go_enter Tryd.func47, Tryd.ntmps47
  go_wp2_with fail
  refine (new_any w hT).mono ?_
  rintro e w1 ⟨rfl, hh, hb1⟩
  have hcq : w1.cell? ⟨q, 0, none⟩ = some (.slice (some ⟨g, 0, none⟩) 64 64) := by
    rw [hb1.cell (p := ⟨q, 0, none⟩) hqlt, cell_of_row w q 0 _ 22 (0, 0) hq]
    rfl
  have hI : Rel w.heap.size q g w w1 P x 0 := ⟨hb1, by simpa [turned] using hh, hT.below hb1, hg.below hb1⟩
  have hPh := Lib.hid hP
  clear hh hb1 hq hT
  go_wp2_with fail
  go_loopg [8, 12] 64 (fun k s8 s12 wr => ∃ i : Nat, i + k = 64 ∧ s12 = .int .i64 (i : Int) ∧ Hid (Rel w.heap.size q g w wr P x i))
  case atStart => exact ⟨0, by omega, rfl, hI⟩
  case round =>
    obtain ⟨i, hik, rfl, hJ⟩ := hrel
    by_cases hi : i < 64
    · have hci : wr.cell? ⟨g, i, none⟩ = some (eb (Sha.b8 P i)) := by
        rw [hJ.out.row.cell]
        have := hPh.out
        simp [Sha.b8, List.getElem?_eq_getElem (show i < P.length by omega)]
      have hx := xor_tb (Sha.b8 P i) x
      clear hI hcq
      have hnew := reads_new wr [Sha.b8 P i ^^^ x] (by simp)
      have hbn : Below wr.heap.size wr (wr.alloc (.cells (([Sha.b8 P i ^^^ x] : List UInt8).map eb).toArray 5)) := (Below.refl _ _).alloc (Nat.le_refl _) _
      have hTn := Lib.hid (hJ.out.tabs.below hbn)
      have hhn := Lib.hid (hJ.out.hash.below hbn)
      have hgn := Lib.hid (hJ.out.row.below hbn)
      have hBn := Lib.hid (hJ.out.below.trans (hbn.mono hJ.out.below.size))
      have hnewh := Lib.hid hnew
      clear hnew hbn hJ
      go_wp2_with fail
      refine (Write.write_any w.heap.size (turned (P.take i) x) (some ⟨wr.heap.size, 0, none⟩) 1 1 [Sha.b8 P i ^^^ x] _ hTn.out hhn.out hnewh.out (by omega) (by have := hPh.out; simp [turned]; omega)).mono ?_
      rintro e w3 ⟨rfl, hh3, hb3⟩
      have hR : Rel w.heap.size q g w w3 P x (i + 1) := by
        refine ⟨hBn.out.trans (hb3.below (Nat.le_refl _) hBn.out.size), ?_, hb3.tabs hTn.out hhn.out.old, ?_⟩
        · rw [turned_take P x i (by have := hPh.out; omega)]
          exact hh3
        · have hne : g ≠ w.heap.size := by omega
          exact (hb3.block g hgn.out.lt hne).trans hgn.out
      have hRh := Lib.hid hR
      clear hR hh3 hb3 hTn hhn hgn hBn hnewh hx hci
      go_wp2_with fail
      go_roundg (gk - 1)
      case measure => omega
      case rel => exact ⟨i + 1, by omega, by simp, hRh⟩
    · obtain rfl : i = 64 := by omega
      have hP64 : P.take 64 = P := List.take_of_length_le (by have := hPh.out; omega)
      have hB := hJ.out.below
      have hh := hJ.out.hash
      have hTt := hJ.out.tabs
      rw [hP64] at hh
      have htl : (turned P x).length = 64 := by rw [turned, List.length_map]; exact hPh.out
      clear hI hcq
      go_wp2_with fail
      refine (Write.write_any w.heap.size (turned P x) A l.length c l wr hTt hh (hr.below hB) hn (by omega)).mono ?_
      rintro e w3 ⟨rfl, hh3, hb3⟩
      have hT3 := hb3.tabs hTt hh.old
      have hB3 := hB.trans (hb3.below (Nat.le_refl _) hB.size)
      clear hb3 hh hTt hB hJ
      go_wp2_with fail
      refine (HSum.sum_any w.heap.size (turned P x ++ l) w3 hT3 hh3 (by simp only [List.length_append]; omega)).mono ?_
      rintro e w4 ⟨v, rfl, ho, hb4⟩
      go_wp2_with fail
      go_ret
      exact ⟨v, rfl, own_weaken ho hB3.size, hB3.trans (hb4.mono hB3.size)⟩
end Go.Proofs.YtcelojkecfiocaaDoor.Under
