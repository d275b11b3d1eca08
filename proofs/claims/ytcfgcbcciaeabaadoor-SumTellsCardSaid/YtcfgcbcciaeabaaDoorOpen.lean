/- sum.Open and the reference's Open: the way back from a frame. Conditions: lengths below 2^47. -/
import Derived.Test.YtcfgcbcciaeabaaDoorFrame
import Derived.Deep.RegionHeld3
namespace Go.Proofs.YtcfgcbcciaeabaaDoor.Open
open Go.RowKit Go.Proofs.YtcfgcbcciaeabaaDoor.Bv Go.Proofs.YtcfgcbcciaeabaaDoor.Mem
open Go.Proofs.YtcfgcbcciaeabaaDoorW.PrintWords
open Go.Proofs.YtcfgcbcciaeabaaDoor.Crc
open Go.Proofs.YtcfgcbcciaeabaaDoor.More (Tab sumP)
open Go.Proofs.YtcfgcbcciaeabaaDoor.Obj (info5)
open Go.Proofs.YtcfgcbcciaeabaaDoor.Str

/-- An answer of a row of bytes and a bool. -/
def Ans (r : List UInt8) (b : Bool) (w : World) (e : Ending) (w' : World) : Prop :=
  ∃ v, e = .returned (.tuple #[v, .bool b]) ∧ w'.ownsRow w.heap.size 5 1 v r.length (encs eb r) ∧ Below w.heap.size w w'
theorem own_none (W : World) (B : Nat) : W.ownsRow B 5 1 (.slice none 0 0) ([] : List UInt8).length (encs eb []) := own_nil W B 5 1
theorem own_empty (W : World) (B : Nat) (hB : B ≤ W.heap.size) : (W.alloc (.cells #[] 5)).ownsRow B 5 1 (.slice (some ⟨W.heap.size, 0, none⟩) 0 0) ([] : List UInt8).length (encs eb []) := World.ownsRow_made W #[] 0 hB (Nat.zero_le _) rfl

set_option maxRecDepth 100000 in
set_option maxHeartbeats 1600000 in
theorem open_any (A : Option Addr) (n c : Nat) (l : List UInt8) (w : World) (hT : Tab w) (hr : ReadsOf eb 0 w A n l) (hn : n ≤ 140737488351236) (hnc : n ≤ c) :
    Calls Tryd.prog 20 #[.slice A n c] w (Ans (opened l).1 (opened l).2 w) := by
  obtain rfl := hr.1
  go_enter Tryd.func20, Tryd.ntmps20
  by_cases h16 : 4 ≤ l.length
  · have hp : opened l = (if frame (l.take (l.length - 4)) = l then (l.take (l.length - 4), true) else ([], false)) := by rw [opened, if_pos h16]
    have hp' := Lib.hid hp
    obtain ⟨hq1, hq2⟩ := part_take A c l (l.length - 4) ((l.length : Int) - 4) (by omega) (by omega) hnc
    have hro := hq2 w hr
    obtain ⟨Y, hY⟩ : ∃ Y, Y = l.take (l.length - 4) := ⟨_, rfl⟩
    have hYl : Y.length = l.length - 4 := by rw [hY, List.length_take]; omega
    rw [← hY, ← hYl] at hro
    rw [← hYl] at hq1
    have hYa : Y.length ≤ l.length - 4 := Nat.le_of_eq hYl
    have hY' := Lib.hid hY
    clear hp hq2 hY hYl
    go_upto_region 4 with (at_builtin; (with_reducible refine print_append_row_of (w0 := w) (o := ⟨some 13, _, _, _, _, _⟩) eb 0 w.heap.size ?q1x0 (.const (.slice none 0 0)) (.tmp 12) 22 5 (.int .u8 0) 1 ?q1x1 Tryd.underlying22 info5 ?q1x2 ?q1x3 ?q1x4 (.slice none 0 0) [] Y A Y.length c ?q1x5 ?q1x6 (own_nil _ _ _ _) hro (Below.refl _ _) ?q1x7 ?q1x8 ?q1x9); (case q1x0 => rfl); (case q1x1 => rfl); (case q1x2 => rfl); (case q1x3 => omega); (case q1x4 => exact fun _ => rfl); (case q1x5 => rfl); (case q1x6 => rfl); (case q1x7 => exact Nat.le_refl _); (case q1x8 => simp; omega); intro v1 w1 hown hbel _ _; simp only [List.nil_append] at hown)
    obtain ⟨A1, c1, rfl, _, hr1⟩ := own_reads_of_le (d := (0 : UInt8)) hown
    have hbd : Below w.heap.size w w1.drew := below_drewN hbel 1
    have hownd : w1.drew.ownsRow w.heap.size 5 1 (.slice A1 Y.length c1) Y.length (encs eb Y) := hown
    have hr1d : ReadsOf eb 0 w1.drew A1 Y.length Y := hr1
    have hrd := hr.below hbd
    have hTd := hT.on hbd
    have hSd := hbd.size
    have sl := string_of (c := c) hrd
    clear hown hr1 hbel hro hq1 hT hr
    go_region_with (go_at_call 19; refine (Frame.frame_any A1 Y.length c1 Y w1.drew hTd hr1d (by omega)).mono ?_; rintro e w2 ⟨v2, rfl, ho2, hb2⟩; have hown2 := pw_own_below hownd hb2; have hbel2 := hbd.trans (hb2.mono hSd); obtain ⟨E, hE⟩ : ∃ E, E = frame Y := ⟨_, rfl⟩; rw [← hE] at ho2; obtain ⟨A2, c2, rfl, _, hr2⟩ := own_reads_of_le (d := (0 : UInt8)) ho2; have sx := string_of (c := c2) hr2; have sy := string_of (c := c) (hrd.below hb2); have hE' := Lib.hid hE; clear hE ho2 hr2)
    all_goals
      have hB3' := Lib.hid hbel2
      have hown3' := Lib.hid hown2
      clear hbel2 hown2 hb2 sl hrd hTd hr1d hownd hbd
      by_cases hMZ : E = l
      · have hd := str_same hMZ
        have hgo' := Lib.hid (show opened l = (Y, true) by rw [hp'.out, ← hY'.out, if_pos (by rw [← hE'.out]; exact hMZ)])
        rw [hd]
        have hMZ' := Lib.hid hMZ
        clear hd hMZ
        go_wp2_with fail
        go_ret2
        unfold Ans
        rw [hgo'.out]
        exact ⟨_, rfl, hown3'.out, hB3'.out⟩
      · have hd := str_other hMZ
        have hgo' := Lib.hid (show opened l = ([], false) by rw [hp'.out, ← hY'.out, if_neg (fun h => hMZ (by rw [hE'.out]; exact h))])
        rw [hd]
        have hMZ' := Lib.hid hMZ
        clear hd hMZ
        go_wp2_with fail
        go_ret2
        unfold Ans
        rw [hgo'.out]
        exact ⟨_, rfl, own_none _ _, hB3'.out⟩
  · have hp : opened l = ([], false) := by rw [opened, if_neg h16]
    have hp' := Lib.hid hp
    clear hp
    go_wp2_with fail
    go_ret2
    unfold Ans
    rw [hp'.out]
    exact ⟨_, rfl, own_none _ _, Below.refl _ _⟩

set_option maxRecDepth 100000 in
set_option maxHeartbeats 1600000 in
theorem refopen_any (A : Option Addr) (n c : Nat) (l : List UInt8) (w : World) (hr : ReadsOf eb 0 w A n l) (hn : n ≤ 140737488351236) (hnc : n ≤ c) :
    Calls Tryd.prog 22 #[.slice A n c] w (Ans (opened l).1 (opened l).2 w) := by
  obtain rfl := hr.1
  go_enter Tryd.func22, Tryd.ntmps22
  by_cases h16 : 4 ≤ l.length
  · have hp : opened l = (if frame (l.take (l.length - 4)) = l then (l.take (l.length - 4), true) else ([], false)) := by rw [opened, if_pos h16]
    have hp' := Lib.hid hp
    obtain ⟨hq1, hq2⟩ := part_take A c l (l.length - 4) ((l.length : Int) - 4) (by omega) (by omega) hnc
    have hbn : Below w.heap.size w (w.alloc (.cells #[] 5)) := (Below.refl _ _).alloc (Nat.le_refl _) _
    have hro := hq2 _ (hr.below hbn)
    have hoe := own_empty w w.heap.size (Nat.le_refl _)
    obtain ⟨Y, hY⟩ : ∃ Y, Y = l.take (l.length - 4) := ⟨_, rfl⟩
    have hYl : Y.length = l.length - 4 := by rw [hY, List.length_take]; omega
    rw [← hY, ← hYl] at hro
    rw [← hYl] at hq1
    have hYa : Y.length ≤ l.length - 4 := Nat.le_of_eq hYl
    have hY' := Lib.hid hY
    have hbS : w.heap.size ≤ (w.alloc (.cells #[] 5)).heap.size := hbn.size
    clear hp hq2 hY hYl
    go_upto_region 4 with (at_builtin; (with_reducible refine print_append_row_of (w0 := w) (o := ⟨some 15, _, _, _, _, _⟩) eb 0 w.heap.size ?q1x0 (.tmp 9) (.tmp 14) 22 5 (.int .u8 0) 1 ?q1x1 Tryd.underlying22 info5 ?q1x2 ?q1x3 ?q1x4 _ [] Y A Y.length c ?q1x5 ?q1x6 hoe hro hbn ?q1x7 ?q1x8 ?q1x9); (case q1x0 => rfl); (case q1x1 => rfl); (case q1x2 => rfl); (case q1x3 => omega); (case q1x4 => exact fun _ => rfl); (case q1x5 => rfl); (case q1x6 => rfl); (case q1x7 => exact hbS); (case q1x8 => simp; omega); intro v1 w1 hown hbel _ _; simp only [List.nil_append] at hown)
    obtain ⟨A1, c1, rfl, _, hr1⟩ := own_reads_of_le (d := (0 : UInt8)) hown
    have hrl := hr.below hbel
    have hS := hbel.size
    clear hoe hro hbn hbS hq1 hr
    go_wp2_with fail
    refine (Frame.refframe_any A1 Y.length c1 Y w1 hr1 (by omega)).mono ?_
    rintro e w2 ⟨v2, rfl, ho2, hb2⟩
    have hown2 := Lib.hid (pw_own_below hown hb2)
    have hbel2 := Lib.hid (hbel.trans (hb2.mono hS))
    have hrl2 := hrl.below hb2
    obtain ⟨E, hE⟩ : ∃ E, E = frame Y := ⟨_, rfl⟩
    rw [← hE] at ho2
    obtain ⟨A2, c2, rfl, _, hr2⟩ := own_reads_of_le (d := (0 : UInt8)) ho2
    have sx := string_of (c := c2) hr2
    have sy := string_of (c := c) hrl2
    have hE' := Lib.hid hE
    clear ho2 hr2 hrl2 hrl hb2 hown hbel hr1 hE
    by_cases hEl : E = l
    · have hgo' := Lib.hid (show opened l = (Y, true) by rw [hp'.out, ← hY'.out, if_pos (by rw [← hE'.out]; exact hEl)])
      have hd := str_same hEl
      have hEl' := Lib.hid hEl
      clear hEl
      go_wp2_with fail
      go_ret2
      unfold Ans
      rw [hgo'.out]
      exact ⟨_, rfl, hown2.out, hbel2.out⟩
    · have hgo' := Lib.hid (show opened l = ([], false) by rw [hp'.out, ← hY'.out, if_neg (fun h => hEl (by rw [hE'.out]; exact h))])
      have hd := str_other hEl
      have hEl' := Lib.hid hEl
      clear hEl
      go_wp2_with fail
      go_ret2
      unfold Ans
      rw [hgo'.out]
      exact ⟨_, rfl, own_none _ _, hbel2.out⟩
  · have hp : opened l = ([], false) := by rw [opened, if_neg h16]
    have hp' := Lib.hid hp
    clear hp
    go_wp2_with fail
    go_ret2
    unfold Ans
    rw [hp'.out]
    exact ⟨_, rfl, own_none _ _, Below.refl _ _⟩
end Go.Proofs.YtcfgcbcciaeabaaDoor.Open
