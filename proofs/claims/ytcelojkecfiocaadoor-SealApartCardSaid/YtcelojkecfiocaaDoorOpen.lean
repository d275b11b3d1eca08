/- seal.Open. Conditions: lengths below 2^47. -/
import Derived.Test.YtcelojkecfiocaaDoorSealP
import Derived.Test.YtcelojkecfiocaaDoorSame
import Derived.Deep.RegionHeld3
namespace Go.Proofs.YtcelojkecfiocaaDoor.Open
open Go.RowKit Go.Proofs.YtcelojkecfiocaaDoor.Bv Go.Proofs.YtcelojkecfiocaaDoor.Mem
open Go.Proofs.YtcelojkecfiocaaDoorW.PrintWords
open Go.Proofs.YtcelojkecfiocaaDoor.Changed (Tabs RTabs)
open Go.Proofs.YtcelojkecfiocaaDoor.Pad (sb sb_length)
open Go.Proofs.YtcelojkecfiocaaDoor.Mac (mac mac_length MacPost)
open Go.Proofs.YtcelojkecfiocaaDoor.RefFilled (info5)
open Go.Proofs.YtcelojkecfiocaaDoor.Str
open Go.Proofs.YtcelojkecfiocaaDoor.SealP

theorem sealed_iff (k l own tl : List UInt8) (h : l = own ++ tl) : sealed k own = l ↔ (mac k own).take 16 = tl := by
  subst h
  unfold sealed
  rw [List.append_cancel_left_eq]

set_option maxRecDepth 100000 in
set_option maxHeartbeats 1600000 in
theorem open_any (s : ByteArray) (A : Option Addr) (n c : Nat) (l : List UInt8) (w : World) (hT : Tabs w) (hs : s.size ≤ 140737488351232) (hr : ReadsOf eb 0 w A n l) (hn : n ≤ 140737488351248) (hnc : n ≤ c) :
    Calls Tryd.prog 29 #[.string s, .slice A n c] w (Ans (openP (sb s) l).1 (openP (sb s) l).2 w) := by
  obtain rfl := hr.1
  have hsl := sb_length s
  go_enter Tryd.func29, Tryd.ntmps29
  go_wp2_with fail
  refine (Mac.may_any s w (by omega)).mono ?_
  rintro e w1 ⟨rfl, rfl⟩
  by_cases h : s.size ≤ 200
  · rw [decide_eq_true h]
    by_cases h16 : 16 ≤ l.length
    · have hp : openP (sb s) l = (if sealed (sb s) (l.take (l.length - 16)) = l then (l.take (l.length - 16), 0) else ([], 41)) := by rw [openP, if_pos (by omega), if_pos h16]
      have hp' := Lib.hid hp
      obtain ⟨hq1, hq2⟩ := part_take A c l (l.length - 16) ((l.length : Int) - 16) (by omega) (by omega) hnc
      have hro := hq2 w hr
      obtain ⟨Y, hY⟩ : ∃ Y, Y = l.take (l.length - 16) := ⟨_, rfl⟩
      obtain ⟨Z, hZ⟩ : ∃ Z, Z = l.drop (l.length - 16) := ⟨_, rfl⟩
      have hYZ : l = Y ++ Z := by rw [hY, hZ, List.take_append_drop]
      have hYl : Y.length = l.length - 16 := by rw [hY, List.length_take]; omega
      have hZl : Z.length = 16 := by rw [hZ, List.length_drop]; omega
      rw [← hY, ← hYl] at hro
      rw [← hYl] at hq1
      have hYl' := Lib.hid hYl
      have hYa : Y.length ≤ l.length - 16 := Nat.le_of_eq hYl
      have hYb : l.length - 16 ≤ Y.length := Nat.le_of_eq hYl.symm
      have hY' := Lib.hid hY
      have hZl' := Lib.hid hZl
      have hZ' := Lib.hid hZ
      have hYZ' := Lib.hid hYZ
      clear hp hq2 hY hZ hYZ hYl hZl
      go_upto_region 6 with (at_builtin; (with_reducible refine print_append_row_of (w0 := w) (o := ⟨some 20, _, _, _, _, _⟩) eb 0 w.heap.size ?q1x0 (.const (.slice none 0 0)) (.tmp 19) 22 5 (.int .u8 0) 1 ?q1x1 Tryd.underlying22 info5 ?q1x2 ?q1x3 ?q1x4 (.slice none 0 0) [] Y A Y.length c ?q1x5 ?q1x6 (own_nil _ _ _ _) hro (Below.refl _ _) ?q1x7 ?q1x8 ?q1x9); (case q1x0 => rfl); (case q1x1 => rfl); (case q1x2 => rfl); (case q1x3 => omega); (case q1x4 => exact fun _ => rfl); (case q1x5 => rfl); (case q1x6 => rfl); (case q1x7 => exact Nat.le_refl _); (case q1x8 => simp; omega); intro v1 w1 hown hbel _ _; simp only [List.nil_append] at hown)
      obtain ⟨A1, c1, rfl, _, hr1⟩ := own_reads_of_le (d := (0 : UInt8)) hown
      have hbd : Below w.heap.size w w1.drew := below_drewN hbel 1
      have hownd : w1.drew.ownsRow w.heap.size 5 1 (.slice A1 Y.length c1) Y.length (encs eb Y) := hown
      have hr1d : ReadsOf eb 0 w1.drew A1 Y.length Y := hr1
      have hrd := hr.below hbd
      have hTd := hT.below hbd
      have hSd := hbd.size
      obtain ⟨A', hd1, hd2⟩ := part_drop A c l Y.length (Y.length : Int) rfl (by omega) hnc
      have e16 : l.length - Y.length = 16 := by omega
      have ed : l.drop Y.length = Z := by rw [hZ'.out, hYl'.out]
      rw [e16] at hd1 hd2
      rw [ed] at hd2
      clear hown hr1 hbel hro hq1 e16 ed hT hr
      go_region_with (first | (go_at_call 40; refine (Mac.mac_any s A1 Y.length c1 Y w1.drew hTd hs hr1d (by omega)).mono ?_; rintro e w2 ⟨v2, rfl, ho2, hb2⟩; have hown2 := pw_own_below hownd hb2; have hbel2 := hbd.trans (hb2.mono hSd); obtain ⟨M, hM⟩ : ∃ M, M = mac (sb s) Y := ⟨_, rfl⟩; rw [← hM] at ho2; have hMl : M.length = 32 := (by rw [hM]; exact mac_length _ _); obtain ⟨A2, c2, rfl, hc2, hr2⟩ := own_reads_of_le (d := (0 : UInt8)) ho2; obtain ⟨hp1, hp2⟩ := part_take A2 c2 M 16 16 rfl (by omega) hc2; have hr3 := hp2 w2 hr2; have hr4 := hd2 w2 (hrd.below hb2); have hM' := Lib.hid hM; clear hr2 hp2 hM hMl ho2) | (go_at_call 27; refine (Same.same_any A2 A' 16 16 c2 _ (M.take 16) Z w2 hr3 hr4).mono ?_; rintro e w3 ⟨rfl, hb3⟩))
      have hB3 := hbel2.trans (hb3.mono hbel2.size)
      have hown3 := pw_own_below hown2 hb3
      have hB3' := Lib.hid hB3
      have hown3' := Lib.hid hown3
      by_cases hMZ : List.take 16 M = Z
      · have hd := decide_eq_true hMZ
        have hgo : openP (sb s) l = (Y, 0) := by
          rw [hp'.out, ← hY'.out, if_pos ((sealed_iff (sb s) l Y Z hYZ'.out).2 (by rw [← hM'.out]; exact hMZ))]
        have hgo' := Lib.hid hgo
        rw [hd]
        clear hgo hd hMZ hB3 hown3 hb3 hown2 hbel2 hb2
        go_wp2_with fail
        go_ret2
        unfold Ans
        rw [hgo'.out]
        exact ⟨_, rfl, hown3'.out, hB3'.out⟩
      · have hd := decide_eq_false hMZ
        have hgo : openP (sb s) l = ([], 41) := by
          rw [hp'.out, ← hY'.out, if_neg (fun h => hMZ (by rw [hM'.out]; exact (sealed_iff (sb s) l Y Z hYZ'.out).1 h))]
        have hgo' := Lib.hid hgo
        rw [hd]
        clear hgo hd hMZ hB3 hown3 hb3 hown2 hbel2 hb2
        go_wp2_with fail
        go_ret2
        unfold Ans
        rw [hgo'.out]
        exact ⟨_, rfl, own_none _ _, hB3'.out⟩
    · have hp : openP (sb s) l = ([], 40) := by rw [openP, if_pos (by omega), if_neg h16]
      have hp' := Lib.hid hp
      clear hp
      go_wp2_with fail
      go_ret2
      unfold Ans
      rw [hp'.out]
      exact ⟨_, rfl, own_none _ _, Below.refl _ _⟩
  · have hp : openP (sb s) l = ([], 2) := by rw [openP, if_neg (by omega)]
    have hp' := Lib.hid hp
    clear hp
    rw [decide_eq_false h]
    go_wp2_with fail
    go_ret2
    unfold Ans
    rw [hp'.out]
    exact ⟨_, rfl, own_none _ _, Below.refl _ _⟩
end Go.Proofs.YtcelojkecfiocaaDoor.Open
