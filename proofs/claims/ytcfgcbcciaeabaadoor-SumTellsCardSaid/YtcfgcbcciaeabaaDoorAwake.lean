/- The document's examples, asked ahead of each statement on sums. -/
import Derived.Test.YtcfgcbcciaeabaaDoorOpen
import Derived.Test.YtcfgcbcciaeabaaDoorJoin
import Derived.Test.YtcfgcbcciaeabaaDoorHold
namespace Go.Proofs.YtcfgcbcciaeabaaDoor.Awake
open Go.RowKit Go.Proofs.YtcfgcbcciaeabaaDoor.Bv Go.Proofs.YtcfgcbcciaeabaaDoor.Mem
open Go.Proofs.YtcfgcbcciaeabaaDoorW.PrintWords
open Go.Proofs.YtcfgcbcciaeabaaDoor.Crc
open Go.Proofs.YtcfgcbcciaeabaaDoor.More (Tab sumP moreP)
open Go.Proofs.YtcfgcbcciaeabaaDoor.Join (joinP)
open Go.Proofs.YtcfgcbcciaeabaaDoor.Str
open Go.Proofs.YtcfgcbcciaeabaaDoor.Hold (Done)

def n9 : List UInt8 := [49, 50, 51, 52, 53, 54, 55, 56, 57]
def n4 : List UInt8 := [49, 50, 51, 52]
def n5 : List UInt8 := [53, 54, 55, 56, 57]
def one : List UInt8 := [97]
theorem sum9 : sumP n9 = 3808858755 := by decide +kernel
theorem join5 : joinP (sumP n4) (sumP n5) 5 = (3808858755, 0) := by decide +kernel
theorem frame1 : frame one = [97, 48, 67, 208, 193] := by decide +kernel
theorem open1 : opened [97, 48, 67, 208, 193] = (one, true) := by decide +kernel
theorem more1 : moreP (-1) [] = (0, 1) := by decide +kernel
theorem reads_nil (w : World) : ReadsOf eb 0 w none 0 [] := ⟨rfl, Nat.zero_le _, fun h => absurd h (by decide)⟩

def J5 : Int := 3808858755
def JPost (w : World) (e : Ending) (w' : World) : Prop := e = .returned (.tuple #[.int .i64 J5, .int .i64 0]) ∧ Below w.heap.size w w'
theorem join_ex (x y : Int) (h : joinP x y 5 = (J5, 0)) (w : World) : Calls Tryd.prog 17 #[.int .i64 x, .int .i64 y, .int .i64 5] w (JPost w) := by
  have := Join.join_any x y 5 (by omega) w
  rw [h] at this
  exact this

set_option maxRecDepth 100000 in
set_option maxHeartbeats 800000 in
theorem awake_any (w : World) (hT : Tab w) : Calls Tryd.prog 10 #[] w (Done w) := by
  go_enter Tryd.func10, Tryd.ntmps10
  have hnew := reads_mark w n9 (9, 10) (by decide)
  have hb1 : Below w.heap.size w (w.alloc (.cells (n9.map eb).toArray 5 (9, 10))) := (Below.refl _ _).alloc (Nat.le_refl _) _
  have hm := More.sum_any (some ⟨w.heap.size, 0, none⟩) 9 9 n9 _ (hT.on hb1) hnew
  rw [sum9] at hm
  have hm' := Lib.hid hm
  have hB1 := Lib.hid hb1
  clear hm hnew hb1
  go_wp2_with fail
  refine hm'.out.mono ?_
  rintro e w' ⟨rfl, rfl⟩
  clear hm'
  generalize w.alloc (.cells (n9.map eb).toArray 5 (9, 10)) = w1 at hB1 ⊢
  have hS1 := hB1.out.size
  have hnew := reads_mark w1 n4 (4, 5) (by decide)
  have hb2 : Below w.heap.size w (w1.alloc (.cells (n4.map eb).toArray 5 (4, 5))) := hB1.out.alloc hS1 _
  have hm := More.sum_any (some ⟨w1.heap.size, 0, none⟩) 4 4 n4 _ (hT.on hb2) hnew
  obtain ⟨x4, hx4⟩ : ∃ x, x = sumP n4 := ⟨_, rfl⟩
  rw [← hx4] at hm
  have hx4' := Lib.hid hx4
  clear hx4
  have hm' := Lib.hid hm
  have hB2 := Lib.hid hb2
  clear hm hnew hb2
  go_wp2_with fail
  refine hm'.out.mono ?_
  rintro e w' ⟨rfl, rfl⟩
  clear hm'
  generalize w1.alloc (.cells (n4.map eb).toArray 5 (4, 5)) = w2 at hB2 ⊢
  have hS2 := hB2.out.size
  clear hB1 hS1
  have hnew := reads_mark w2 n5 (5, 6) (by decide)
  have hb3 : Below w.heap.size w (w2.alloc (.cells (n5.map eb).toArray 5 (5, 6))) := hB2.out.alloc hS2 _
  have hm := More.sum_any (some ⟨w2.heap.size, 0, none⟩) 5 5 n5 _ (hT.on hb3) hnew
  obtain ⟨x5, hx5⟩ : ∃ x, x = sumP n5 := ⟨_, rfl⟩
  rw [← hx5] at hm
  have hx5' := Lib.hid hx5
  clear hx5
  have hm' := Lib.hid hm
  have hB3 := Lib.hid hb3
  clear hm hnew hb3
  go_wp2_with fail
  refine hm'.out.mono ?_
  rintro e w' ⟨rfl, rfl⟩
  clear hm'
  generalize w2.alloc (.cells (n5.map eb).toArray 5 (5, 6)) = w3 at hB3 ⊢
  have hS3 := hB3.out.size
  clear hB2 hS2
  have hj : joinP x4 x5 5 = (J5, 0) := by have h4 := hx4'.out; have h5 := hx5'.out; subst h4 h5; exact join5
  have hm' := Lib.hid (join_ex x4 x5 hj w3)
  clear hx4' hx5' hj
  go_wp2_with fail
  refine hm'.out.mono ?_
  intro e w4 h
  obtain ⟨rfl, hb4⟩ := h
  rw [show J5 = 3808858755 from rfl]
  have hB4 := Lib.hid (hB3.out.trans (hb4.mono hS3))
  have hS4 := hB4.out.size
  clear hm' hB3 hS3 hb4
  have hnew := reads_mark w4 one (1, 2) (by decide)
  have hb5 : Below w.heap.size w (w4.alloc (.cells (one.map eb).toArray 5 (1, 2))) := hB4.out.alloc hS4 _
  have hm := Frame.frame_any (some ⟨w4.heap.size, 0, none⟩) 1 1 one _ (hT.on hb5) hnew (by omega)
  rw [frame1] at hm
  have hm' := Lib.hid hm
  have hB5 := Lib.hid hb5
  have hS5 := hb5.size
  clear hm hnew hb5
  go_wp2_with fail
  refine hm'.out.mono ?_
  rintro e w6 ⟨v, rfl, ho, hb6⟩
  have hB6 := Lib.hid (hB5.out.trans (hb6.mono hS5))
  have hS6 := hB6.out.size
  obtain ⟨A6, c6, rfl, hc6, hr6⟩ := own_reads_of_le (d := (0 : UInt8)) ho
  have hm := Open.open_any A6 5 c6 [97, 48, 67, 208, 193] w6 (hT.on hB6.out) hr6 (by omega) hc6
  rw [open1] at hm
  have hm2 := Lib.hid hm
  have hr6' := Lib.hid hr6
  clear hm hm' hB5 hS5 hb6 ho hr6 hB4 hS4 hc6
  go_wp2_with fail
  refine hm2.out.mono ?_
  rintro e w7 ⟨v, rfl, ho, hb7⟩
  have hB7 := Lib.hid (hB6.out.trans (hb7.mono hS6))
  have hr7 := hr6'.out.below hb7
  obtain ⟨A7, c7, rfl, _, hr8⟩ := own_reads_of_le (d := (0 : UInt8)) ho
  have hm := More.more_any (-1) none 0 0 [] w7 (hT.on hB7.out) (reads_nil _)
  rw [more1] at hm
  have hm3 := Lib.hid hm
  have sx : (convert 22 9 (.slice A6 5 c6)).run Tryd.prog w7 = .ok (.string (str [97, 48, 67, 208, 193])) w7 := string_of (c := c6) hr7
  have sy := string_of (c := c7) hr8
  have e1 : (str [97, 48, 67, 208, 193]).toList = [97, 48, 67, 208, 193] := str_list _
  have e2 : (str one).toList = [97] := str_list _
  clear hm hm2 hB6 hS6 hb7 ho hr6' hr7 hr8
  go_wp2_with fail
  refine hm3.out.mono ?_
  rintro e w' ⟨rfl, rfl⟩
  clear hm3
  go_wp2_with fail
  go_ret
  exact ⟨rfl, hB7.out⟩
end Go.Proofs.YtcfgcbcciaeabaaDoor.Awake
