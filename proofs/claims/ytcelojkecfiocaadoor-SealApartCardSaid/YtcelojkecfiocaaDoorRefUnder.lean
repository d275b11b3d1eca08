/- The reference's under: a secret's pad, each byte turned. -/
import Derived.Test.YtcelojkecfiocaaDoorUnder
import Derived.Test.YtcelojkecfiocaaDoorRefSum
namespace Go.Proofs.YtcelojkecfiocaaDoor.RefUnder
open Go.RowKit Go.Proofs.YtcelojkecfiocaaDoor.Bv Go.Proofs.YtcelojkecfiocaaDoor.Mem
open Go.Proofs.YtcelojkecfiocaaDoorW.PrintWords
open Go.Proofs.YtcelojkecfiocaaDoor.Changed (Tabs RTabs)
open Go.Proofs.YtcelojkecfiocaaDoor.Str
open Go.Proofs.YtcelojkecfiocaaDoor.Pad (sb sb_length key pad key_length pad_length str_reads copy_src copy_one splice_pad zero64 make64 zero_arr)
open Go.Proofs.YtcelojkecfiocaaDoor.Under (turned xor_tb)

theorem own_arr {W : World} {g B : Nat} {L : List UInt8} (h : Arr W g 5 (L.map eb)) (hB : B ≤ g) (hl : L.length ≤ 9223372036854775807) : W.ownsRow B 5 1 (.slice (some ⟨g, 0, none⟩) L.length L.length) L.length (encs eb L) := by
  refine ⟨by simp [encs], .inr ⟨g, L.length, (L.map eb).toArray, rfl, hB, h, Nat.le_refl _, by simpa [maxLen] using hl, by simp, ?_⟩⟩
  rw [Nat.mul_one]; exact List.take_of_length_le (by simp)

/-- The first q bytes are turned. -/
def some_ (P : List UInt8) (x : UInt8) (q : Nat) : List Value := (turned (P.take q) x).map eb ++ (P.drop q).map eb
theorem some_at (P : List UInt8) (x : UInt8) (q : Nat) (h : q < P.length) : (some_ P x q)[q]? = some (eb (Sha.b8 P q)) := by
  unfold some_
  rw [List.getElem?_append_right (by simp [turned]; omega)]
  have e : q - ((turned (P.take q) x).map eb).length = 0 := by simp [turned]; omega
  rw [e, List.drop_eq_getElem_cons h]
  simp [Sha.b8, List.getElem?_eq_getElem h]
theorem some_set (P : List UInt8) (x : UInt8) (q : Nat) (h : q < P.length) : (some_ P x q).set q (eb (Sha.b8 P q ^^^ x)) = some_ P x (q + 1) := by
  unfold some_
  rw [List.drop_eq_getElem_cons h, List.map_cons, set_mid _ _ _ _ q (by simp [turned]; omega), Under.turned_take P x q h]
  simp
theorem some_all (P : List UInt8) (x : UInt8) (q : Nat) (h : P.length ≤ q) : some_ P x q = (turned P x).map eb := by
  unfold some_
  rw [List.take_of_length_le h, List.drop_of_length_le h]
  simp
theorem some_zero (P : List UInt8) (x : UInt8) : some_ P x 0 = P.map eb := by simp [some_, turned]

structure Rel (g : Nat) (w wr : World) (P : List UInt8) (x : UInt8) (q : Nat) : Prop where
  below : Below w.heap.size w wr
  row : Arr wr g 5 (some_ P x q)

set_option maxRecDepth 100000 in
set_option maxHeartbeats 1600000 in
theorem under_any (s : ByteArray) (x : UInt8) (w : World) (hT : RTabs w) (hs : s.size ≤ 140737488351232) : Calls Tryd.prog 41 #[.string s, .int .u8 (tb x)] w (RefFilled.Post w (turned (pad (sb s)) x)) := by
  have kb := fun W : World => print_bytes (P := Tryd.prog) 9 22 5 Tryd.underlying9 Tryd.underlying22 (by kernel_rfl) s W
  have hr := str_reads w s (by omega)
  have hb : Below w.heap.size w (Lib.bytesWorld w 5 s) := bytes_below (Below.refl _ _) (Nat.le_refl _) 5 s
  have hT1 := hT.below hb
  have hmk := make64
  have hsl := sb_length s
  go_enter Tryd.func41, Tryd.ntmps41
  go_upto_region 2 with fail
  generalize Lib.bytesWorld w 5 s = w1 at hr hb hT1 ⊢
  generalize grownCap w s.size 0 5 = cs
  clear kb
  by_cases hlong : 64 < s.size
  · have hk : key (sb s) = Sha.sha (sb s) := by rw [key, if_pos (by omega)]
    go_upto_region 4 with (go_at_call 17; refine (RefSum.sum_any (some ⟨w.heap.size, 0, none⟩) s.size cs (sb s) w1 hT1 hr (by omega)).mono ?_; rintro e w2 ⟨v, rfl, ho, hb2⟩; obtain ⟨A, c, rfl, _, hrd⟩ := own_reads_of_le (d := (0 : UInt8)) ho)
    have hb3 := hb.trans (hb2.mono hb.size)
    have h32 : (Sha.sha (sb s)).length = 32 := Sha.sha_length _
    rw [h32] at hrd ⊢
    clear ho hb2 hb hr hT1
    go_upto_region 5 with (fail)
    have hnew := zero_arr w2
    have hbn : Below w.heap.size w (w2.alloc zero64) := hb3.alloc hb3.size _
    have hrn := hrd.below (((Below.refl _ w2).alloc (Nat.le_refl _) zero64) : Below w2.heap.size w2 (w2.alloc zero64))
    have hge : w.heap.size ≤ w2.heap.size := hb3.size
    generalize w2.heap.size = g at hnew hge ⊢
    generalize w2.alloc zero64 = w3 at hnew hbn hrn ⊢
    have hsrc := Lib.hid (copy_src hrn)
    have hone := Lib.hid (copy_one (Sha.sha (sb s)))
    have hlen : (Sha.sha (sb s)).length ≤ 64 := by omega
    have hrl := hrn.1
    clear hrn hmk hrd h32 hb3
    go_upto_region 6 with ((with_reducible refine wpList_copy_splice (o := ⟨some 18, _, _, _, _, _⟩) ?k0 (.tmp 16) (.tmp 17) 22 22 ?k1 5 Tryd.underlying22 ?k2 (some ⟨g, 0, none⟩) A 64 64 32 c ?k3 ?k4 g 0 (List.replicate 64 (eb 0)) 5 ?k5 ((Sha.sha (sb s)).map eb) ?k6 ?k9 ?k7 ?k10 w.heap.size w hbn hge ?k8); (case k0 => rfl); (case k1 => rfl); (case k2 => kernel_rfl); (case k3 => rfl); (case k4 => rfl); (case k5 => exact hnew); (case k6 => (rw [List.length_map, hrl]; exact (Nat.min_eq_left (by omega)).symm)); (case k7 => (simp; omega)); (case k9 => exact fun h => ⟨rfl, hsrc.out h⟩); (case k10 => exact hone.out); intro w4 hx4 hb4; clear hnew hbn)
    have hgl : g < w4.heap.size := (Array.getElem?_eq_some_iff.1 hx4).1
    have hA4 : Arr w4 g 5 ((pad (sb s)).map eb) := by
      have h1 : w4.heap[g]? = _ := hx4
      unfold Arr
      rw [h1]
      rw [splice_pad, pad, hk]
    have hPl := pad_length (sb s)
    obtain ⟨P, hP⟩ : ∃ P, P = pad (sb s) := ⟨_, rfl⟩
    rw [← hP] at hA4 hPl
    have hP' := Lib.hid hP
    have hI : Rel g w w4 P x 0 := ⟨hb4, by rw [some_zero]; exact hA4⟩
    have hPl' := Lib.hid hPl
    clear hx4 hA4 hk hone hsrc hPl hP hb4 hlen hrl
    go_wp2_with fail
    go_loopg [7] 64 (fun k s7 wr => ∃ q : Nat, q + k = 64 ∧ s7 = .int .i64 (q : Int) ∧ Rel g w wr P x q)
    case atStart => exact ⟨0, by omega, rfl, hI⟩
    case round =>
      obtain ⟨q, hqk, rfl, hJ⟩ := hrel
      by_cases hq : q < 64
      · have hcq : wr.cell? ⟨g, q, none⟩ = some (eb (Sha.b8 P q)) := by rw [hJ.row.cell, some_at P x q (by have := hPl'.out; omega)]
        have hfq := hJ.row.free q
        have hxo := xor_tb (Sha.b8 P q) x
        have hst : Rel g w (wr.setCell ⟨g, q, none⟩ (.int .u8 (tb (Sha.b8 P q ^^^ x)))) P x (q + 1) := by
          refine ⟨hJ.below.setCell (p := ⟨g, q, none⟩) hge _, ?_⟩
          have h1 := hJ.row.set q (eb (Sha.b8 P q ^^^ x))
          rw [some_set P x q (by have := hPl'.out; omega)] at h1
          exact h1
        have hst' := Lib.hid hst
        clear hst hJ hI
        go_wp2_with fail
        go_roundg (gk - 1)
        case measure => omega
        case rel => exact ⟨q + 1, by omega, by simp, hst'.out⟩
      · have hrow := hJ.row
        rw [some_all P x q (by have := hPl'.out; omega)] at hrow
        have hJ' := Lib.hid hJ
        have hrow' := Lib.hid hrow
        clear hJ hrow hI
        go_wp2_with fail
        go_ret
        have hl2 : (turned P x).length = 64 := by rw [turned, List.length_map]; exact hPl'.out
        have ho := own_arr hrow'.out hge (by omega)
        rw [hl2] at ho
        rw [← hP'.out]
        exact ⟨_, rfl, by rw [hl2]; exact ho, hJ'.out.below⟩
  · have hk : key (sb s) = sb s := by rw [key, if_neg (by omega)]
    clear hT1
    go_upto_region 5 with (fail)
    have hnew := zero_arr w1
    have hbn : Below w.heap.size w (w1.alloc zero64) := hb.alloc hb.size _
    have hrn := hr.below (((Below.refl _ w1).alloc (Nat.le_refl _) zero64) : Below w1.heap.size w1 (w1.alloc zero64))
    have hge : w.heap.size ≤ w1.heap.size := hb.size
    generalize w1.heap.size = g at hnew hge ⊢
    generalize w1.alloc zero64 = w3 at hnew hbn hrn ⊢
    have hsrc := Lib.hid (copy_src hrn)
    have hone := Lib.hid (copy_one (sb s))
    have hlen : (sb s).length ≤ 64 := by omega
    have hrl := hrn.1
    clear hrn hmk hr hb
    go_upto_region 6 with ((with_reducible refine wpList_copy_splice (o := ⟨some 18, _, _, _, _, _⟩) ?m0 (.tmp 16) (.tmp 17) 22 22 ?m1 5 Tryd.underlying22 ?m2 (some ⟨g, 0, none⟩) (some ⟨w.heap.size, 0, none⟩) 64 64 s.size cs ?m3 ?m4 g 0 (List.replicate 64 (eb 0)) 5 ?m5 ((sb s).map eb) ?m6 ?m9 ?m7 ?m10 w.heap.size w hbn hge ?m8); (case m0 => rfl); (case m1 => rfl); (case m2 => kernel_rfl); (case m3 => rfl); (case m4 => rfl); (case m5 => exact hnew); (case m6 => (rw [List.length_map, hrl]; exact (Nat.min_eq_left (by omega)).symm)); (case m7 => (simp; omega)); (case m9 => exact fun h => ⟨rfl, hsrc.out h⟩); (case m10 => exact hone.out); intro w4 hx4 hb4; clear hnew hbn)
    have hgl : g < w4.heap.size := (Array.getElem?_eq_some_iff.1 hx4).1
    have hA4 : Arr w4 g 5 ((pad (sb s)).map eb) := by
      have h1 : w4.heap[g]? = _ := hx4
      unfold Arr
      rw [h1]
      rw [splice_pad, pad, hk]
    have hPl := pad_length (sb s)
    obtain ⟨P, hP⟩ : ∃ P, P = pad (sb s) := ⟨_, rfl⟩
    rw [← hP] at hA4 hPl
    have hP' := Lib.hid hP
    have hI : Rel g w w4 P x 0 := ⟨hb4, by rw [some_zero]; exact hA4⟩
    have hPl' := Lib.hid hPl
    clear hx4 hA4 hk hone hsrc hPl hP hb4 hlen hrl
    go_wp2_with fail
    go_loopg [7] 64 (fun k s7 wr => ∃ q : Nat, q + k = 64 ∧ s7 = .int .i64 (q : Int) ∧ Rel g w wr P x q)
    case atStart => exact ⟨0, by omega, rfl, hI⟩
    case round =>
      obtain ⟨q, hqk, rfl, hJ⟩ := hrel
      by_cases hq : q < 64
      · have hcq : wr.cell? ⟨g, q, none⟩ = some (eb (Sha.b8 P q)) := by rw [hJ.row.cell, some_at P x q (by have := hPl'.out; omega)]
        have hfq := hJ.row.free q
        have hxo := xor_tb (Sha.b8 P q) x
        have hst : Rel g w (wr.setCell ⟨g, q, none⟩ (.int .u8 (tb (Sha.b8 P q ^^^ x)))) P x (q + 1) := by
          refine ⟨hJ.below.setCell (p := ⟨g, q, none⟩) hge _, ?_⟩
          have h1 := hJ.row.set q (eb (Sha.b8 P q ^^^ x))
          rw [some_set P x q (by have := hPl'.out; omega)] at h1
          exact h1
        have hst' := Lib.hid hst
        clear hst hJ hI
        go_wp2_with fail
        go_roundg (gk - 1)
        case measure => omega
        case rel => exact ⟨q + 1, by omega, by simp, hst'.out⟩
      · have hrow := hJ.row
        rw [some_all P x q (by have := hPl'.out; omega)] at hrow
        have hJ' := Lib.hid hJ
        have hrow' := Lib.hid hrow
        clear hJ hrow hI
        go_wp2_with fail
        go_ret
        have hl2 : (turned P x).length = 64 := by rw [turned, List.length_map]; exact hPl'.out
        have ho := own_arr hrow'.out hge (by omega)
        rw [hl2] at ho
        rw [← hP'.out]
        exact ⟨_, rfl, by rw [hl2]; exact ho, hJ'.out.below⟩
end Go.Proofs.YtcelojkecfiocaaDoor.RefUnder
