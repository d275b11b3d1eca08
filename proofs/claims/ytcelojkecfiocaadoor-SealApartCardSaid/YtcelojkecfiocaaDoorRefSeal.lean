/- The reference's Seal and Open. Conditions: lengths below 2^47. -/
import Derived.Test.YtcelojkecfiocaaDoorOpen
namespace Go.Proofs.YtcelojkecfiocaaDoor.RefSeal
open Go.RowKit Go.Proofs.YtcelojkecfiocaaDoor.Bv Go.Proofs.YtcelojkecfiocaaDoor.Mem
open Go.Proofs.YtcelojkecfiocaaDoorW.PrintWords
open Go.Proofs.YtcelojkecfiocaaDoor.Changed (Tabs RTabs)
open Go.Proofs.YtcelojkecfiocaaDoor.Pad (sb sb_length)
open Go.Proofs.YtcelojkecfiocaaDoor.Mac (mac mac_length MacPost)
open Go.Proofs.YtcelojkecfiocaaDoor.RefFilled (info5)
open Go.Proofs.YtcelojkecfiocaaDoor.Str
open Go.Proofs.YtcelojkecfiocaaDoor.SealP

set_option maxRecDepth 100000 in
set_option maxHeartbeats 1600000 in
theorem seal_any (s : ByteArray) (A : Option Addr) (n c : Nat) (l : List UInt8) (w : World) (hT : RTabs w) (hs : s.size ≤ 140737488351232) (hr : ReadsOf eb 0 w A n l) (hn : n ≤ 140737488351232) :
    Calls Tryd.prog 30 #[.string s, .slice A n c] w (Ans (sealP (sb s) l).1 (sealP (sb s) l).2 w) := by
  obtain rfl := hr.1
  have hsl := sb_length s
  go_enter Tryd.func30, Tryd.ntmps30
  go_wp2_with fail
  refine (RefMac.mac_any s A l.length c l w hT hs hr hn).mono ?_
  rintro e w1 (⟨hk, v2, rfl, ho2, hb2⟩ | ⟨hk, rfl, hb2⟩)
  · have hp : sealP (sb s) l = (sealed (sb s) l, 0) := by rw [sealP, if_pos (by omega)]
    have hp' := Lib.hid hp
    have hS := hb2.size
    have hr1 := hr.below hb2
    have ho2' : w1.ownsRow w.heap.size 5 1 v2 _ _ := ho2
    obtain ⟨M, hM⟩ : ∃ M, M = mac (sb s) l := ⟨_, rfl⟩
    rw [← hM] at ho2 ho2'
    have hMl : M.length = 32 := by rw [hM]; exact mac_length _ _
    obtain ⟨A2, c2, rfl, hc2, hr2⟩ := own_reads_of_le (d := (0 : UInt8)) ho2
    obtain ⟨hp1, hp2⟩ := part_take A2 c2 M 16 16 rfl (by omega) hc2
    have hM' := Lib.hid hM
    clear hp hM hMl hr ho2 ho2'
    go_wp2_with (first | (at_builtin; (with_reducible refine print_append_row_of (w0 := w) (o := ⟨some 20, _, _, _, _, _⟩) eb 0 w.heap.size ?q1x0 (.tmp 18) (.tmp 19) 22 5 (.int .u8 0) 1 ?q1x1 Tryd.underlying22 info5 ?q1x2 ?q1x3 ?q1x4 (.slice none 0 0) [] l A l.length c ?q1x5 ?q1x6 (own_nil _ _ _ _) hr1 hb2 ?q1x7 ?q1x8 ?q1x9); (case q1x0 => rfl); (case q1x1 => rfl); (case q1x2 => rfl); (case q1x3 => omega); (case q1x4 => exact fun _ => rfl); (case q1x5 => rfl); (case q1x6 => rfl); (case q1x7 => exact hS); (case q1x8 => simp; omega); intro v1 w2 hown hbel hgr _; simp only [List.nil_append] at hown; have hr3 := hp2 w2 (hr2.below (Below.grown (Below.refl _ _) hgr (Nat.le_refl _) (by intro q hq; cases hq)))) | (at_builtin; (with_reducible refine print_append_row_of (w0 := w) (o := ⟨some 24, _, _, _, _, _⟩) eb 0 w.heap.size ?q2x0 (.tmp 21) (.tmp 23) 22 5 (.int .u8 0) 1 ?q2x1 Tryd.underlying22 info5 ?q2x2 ?q2x3 ?q2x4 v1 l (M.take 16) A2 16 c2 ?q2x5 ?q2x6 hown hr3 hbel ?q2x7 ?q2x8 ?q2x9); (case q2x0 => rfl); (case q2x1 => rfl); (case q2x2 => rfl); (case q2x3 => omega); (case q2x4 => exact fun _ => rfl); (case q2x5 => rfl); (case q2x6 => rfl); (case q2x7 => exact hbel.size); (case q2x8 => omega); intro v3 w3 hown3 hbel3 _ _))
    go_ret2
    rw [hM'.out] at hown3
    unfold Ans
    rw [hp'.out]
    exact ⟨v3, rfl, hown3, hbel3⟩
  · have hp : sealP (sb s) l = ([], 2) := by rw [sealP, if_neg (by omega)]
    have hp' := Lib.hid hp
    clear hp
    go_wp2_with fail
    go_ret2
    unfold Ans
    rw [hp'.out]
    exact ⟨_, rfl, own_none _ _, hb2⟩

theorem own_empty (W : World) (B : Nat) (hB : B ≤ W.heap.size) : (W.alloc (.cells #[] 5)).ownsRow B 5 1 (.slice (some ⟨W.heap.size, 0, none⟩) 0 0) ([] : List UInt8).length (encs eb []) := World.ownsRow_made W #[] 0 hB (Nat.zero_le _) rfl

set_option maxRecDepth 100000 in
set_option maxHeartbeats 1600000 in
theorem open_any (s : ByteArray) (A : Option Addr) (n c : Nat) (l : List UInt8) (w : World) (hT : RTabs w) (hs : s.size ≤ 140737488351232) (hr : ReadsOf eb 0 w A n l) (hn : n ≤ 140737488351248) (hnc : n ≤ c) :
    Calls Tryd.prog 31 #[.string s, .slice A n c] w (Ans (openP (sb s) l).1 (openP (sb s) l).2 w) := by
  obtain rfl := hr.1
  have hsl := sb_length s
  go_enter Tryd.func31, Tryd.ntmps31
  by_cases h : s.size ≤ 200
  · by_cases h16 : 16 ≤ l.length
    · have hp : openP (sb s) l = (if sealed (sb s) (l.take (l.length - 16)) = l then (l.take (l.length - 16), 0) else ([], 41)) := by rw [openP, if_pos (by omega), if_pos h16]
      have hp' := Lib.hid hp
      obtain ⟨hq1, hq2⟩ := part_take A c l (l.length - 16) ((l.length : Int) - 16) (by omega) (by omega) hnc
      have hbn : Below w.heap.size w (w.alloc (.cells #[] 5)) := (Below.refl _ _).alloc (Nat.le_refl _) _
      have hro := hq2 _ (hr.below hbn)
      have hoe := own_empty w w.heap.size (Nat.le_refl _)
      obtain ⟨Y, hY⟩ : ∃ Y, Y = l.take (l.length - 16) := ⟨_, rfl⟩
      have hYl : Y.length = l.length - 16 := by rw [hY, List.length_take]; omega
      rw [← hY, ← hYl] at hro
      rw [← hYl] at hq1
      have hYa : Y.length ≤ l.length - 16 := Nat.le_of_eq hYl
      have hY' := Lib.hid hY
      have hbS : w.heap.size ≤ (w.alloc (.cells #[] 5)).heap.size := hbn.size
      clear hp hq2 hY hYl
      go_upto_region 6 with (at_builtin; (with_reducible refine print_append_row_of (w0 := w) (o := ⟨some 21, _, _, _, _, _⟩) eb 0 w.heap.size ?q1x0 (.tmp 15) (.tmp 20) 22 5 (.int .u8 0) 1 ?q1x1 Tryd.underlying22 info5 ?q1x2 ?q1x3 ?q1x4 _ [] Y A Y.length c ?q1x5 ?q1x6 hoe hro hbn ?q1x7 ?q1x8 ?q1x9); (case q1x0 => rfl); (case q1x1 => rfl); (case q1x2 => rfl); (case q1x3 => omega); (case q1x4 => exact fun _ => rfl); (case q1x5 => rfl); (case q1x6 => rfl); (case q1x7 => exact hbS); (case q1x8 => simp; omega); intro v1 w1 hown hbel _ _; simp only [List.nil_append] at hown)
      obtain ⟨A1, c1, rfl, _, hr1⟩ := own_reads_of_le (d := (0 : UInt8)) hown
      have hT1 := hT.below hbel
      have hrl := hr.below hbel
      have hS := hbel.size
      clear hoe hro hbn hbS hq1 hT hr
      go_wp2_with fail
      refine (seal_any s A1 Y.length c1 Y w1 hT1 hs hr1 (by omega)).mono ?_
      rintro e w2 ⟨v2, rfl, ho2, hb2⟩
      have hq : (sealP (sb s) Y).1 = sealed (sb s) Y := by rw [sealP, if_pos (by omega)]
      have hown2 := pw_own_below hown hb2
      have hbel2 := hbel.trans (hb2.mono hS)
      have hrl2 := hrl.below hb2
      rw [hq] at ho2
      obtain ⟨E, hE⟩ : ∃ E, E = sealed (sb s) Y := ⟨_, rfl⟩
      rw [← hE] at ho2
      obtain ⟨A2, c2, rfl, _, hr2⟩ := own_reads_of_le (d := (0 : UInt8)) ho2
      have sx := string_of (c := c2) hr2
      have sy := string_of (c := c) hrl2
      have hown2' := Lib.hid hown2
      have hbel2' := Lib.hid hbel2
      have hE' := Lib.hid hE
      clear ho2 hr2 hrl2 hrl hb2 hown hbel hT1 hr1 hown2 hbel2 hE hq
      by_cases hEl : E = l
      · have hgo : openP (sb s) l = (Y, 0) := by rw [hp'.out, ← hY'.out, if_pos (by rw [← hE'.out]; exact hEl)]
        have hgo' := Lib.hid hgo
        have hd := str_same hEl
        clear hgo
        have hd' := Lib.hid hEl
        clear hEl
        go_wp2_with fail
        go_ret2
        unfold Ans
        rw [hgo'.out]
        exact ⟨_, rfl, hown2'.out, hbel2'.out⟩
      · have hgo : openP (sb s) l = ([], 41) := by rw [hp'.out, ← hY'.out, if_neg (fun h => hEl (by rw [hE'.out]; exact h))]
        have hgo' := Lib.hid hgo
        have hd := str_other hEl
        clear hgo hEl
        go_wp2_with fail
        go_ret2
        unfold Ans
        rw [hgo'.out]
        exact ⟨_, rfl, own_none _ _, hbel2'.out⟩
    · have hp : openP (sb s) l = ([], 40) := by rw [openP, if_pos (by omega), if_neg h16]
      have hp' := Lib.hid hp
      clear hp
      go_wp2_with fail
      go_ret2
      unfold Ans
      rw [hp'.out]
      exact ⟨_, rfl, own_none _ _, Below.refl _ _⟩
  · have hp : openP (sb s) l = ([], 2) := by rw [openP, if_neg (by omega)]
    have hp' := Lib.hid hp
    clear hp
    go_wp2_with fail
    go_ret2
    unfold Ans
    rw [hp'.out]
    exact ⟨_, rfl, own_none _ _, Below.refl _ _⟩
end Go.Proofs.YtcelojkecfiocaaDoor.RefSeal
