/- SumAdds: the sum of any bytes, behind any sum, is the reference's. SumJoins: two sums and a length join as the reference does. -/
import Derived.Test.YtcfgcbcciaeabaaDoorAwake
import Derived.Test.YtcfgcbcciaeabaaDoorRefJoin
namespace Go.Proofs.YtcfgcbcciaeabaaDoor.SumAdds
open Go.RowKit Go.Proofs.YtcfgcbcciaeabaaDoor.Bv Go.Proofs.YtcfgcbcciaeabaaDoor.Mem
open Go.Proofs.YtcfgcbcciaeabaaDoorW.PrintWords
open Go.Proofs.YtcfgcbcciaeabaaDoor.More (Tab sumP moreP)
open Go.Proofs.YtcfgcbcciaeabaaDoor.Join (joinP)
open Go.Proofs.YtcfgcbcciaeabaaDoor.Str
open Go.Proofs.YtcfgcbcciaeabaaDoor.Hold

set_option maxRecDepth 100000 in
set_option maxHeartbeats 1600000 in
theorem adds_any (s : Int) (A : Option Addr) (c : Nat) (l : List UInt8) (w : World) (hT : Tab w) (hr : ReadsOf eb 0 w A l.length l) (hn : l.length ≤ 140737488351232) :
    Calls Tryd.prog 3 #[.int .i64 s, .slice A l.length c] w (Done w) := by
  have hAlt := reads_lt hr
  go_enter Tryd.func3, Tryd.ntmps3
  go_wp2_with fail
  refine (Awake.awake_any w hT).mono ?_
  rintro e w1 ⟨rfl, hb1⟩
  have hT1 := hT.on hb1
  go_wp2_with fail
  refine (Lent.lent_any A c l w1 (hr.below hb1) hn).mono ?_
  rintro e w2 ⟨rfl, ha, hb2⟩
  have hT2 := hT1.on hb2
  have hgA : ∀ a, A = some a → 0 < l.length → a.block ≠ w1.heap.size := fun a e h0 => by
    have := hAlt h0 a e
    have := hb1.size
    omega
  have hg := hb1.size
  replace hb2 := hb1.trans (hb2.mono hb1.size)
  have hB2 := Lib.hid hb2
  have hr2 := hr.below hb2
  clear hT1 hb1 hAlt hb2
  generalize w1.heap.size = g at ha hgA hg ⊢
  have hrd := reads_marked ha (by omega)
  obtain ⟨x, hx⟩ : ∃ x, x = sumP l := ⟨_, rfl⟩
  obtain ⟨y, hy⟩ : ∃ y, y = (moreP s l).1 := ⟨_, rfl⟩
  obtain ⟨z, hz⟩ : ∃ z, z = (moreP s l).2 := ⟨_, rfl⟩
  have c1 := More.sum_any (some ⟨g, 0, none⟩) l.length (l.length + 3) l w2 hT2 hrd
  have c2 := More.more_any s (some ⟨g, 0, none⟩) l.length (l.length + 3) l w2 hT2 hrd
  rw [← hx] at c1
  rw [← hy, ← hz] at c2
  have c1' := Lib.hid c1
  have c2' := Lib.hid c2
  have hx' := Lib.hid hx
  have hy' := Lib.hid hy
  have hz' := Lib.hid hz
  clear c1 c2 hx hy hz
  go_wp2_with fail
  refine c1'.out.mono ?_
  rintro e w' ⟨rfl, rfl⟩
  go_wp2_with fail
  refine c2'.out.mono ?_
  rintro e w' ⟨rfl, rfl⟩
  clear c1' c2'
  go_wp2_with fail
  refine (Lent.back_any g A c l w2 ha hr2 hgA hn).mono ?_
  rintro e w3 ⟨rfl, hb3⟩
  have hB3 := Lib.hid (hB2.out.trans (hb3.below hg hB2.out.size))
  have hr3 := hr.below hB3.out
  clear hb3 hB2 ha hrd hr2 hT2 hgA
  have c3 := RefMore.more_any s A l.length c l w3 hr3
  rw [← hy'.out, ← hz'.out] at c3
  have c4 := RefMore.sum_any A l.length c l w3 hr3
  rw [← hx'.out] at c4
  have c3' := Lib.hid c3
  have c4' := Lib.hid c4
  clear c3 c4 hr3 hx' hy' hz'
  go_wp2_with fail
  refine c3'.out.mono ?_
  rintro e w' ⟨rfl, rfl⟩
  go_wp2_with fail
  refine c4'.out.mono ?_
  rintro e w' ⟨rfl, rfl⟩
  go_wp2_with fail
  go_ret
  exact ⟨rfl, hB3.out⟩

set_option maxRecDepth 100000 in
set_option maxHeartbeats 1600000 in
theorem joins_any (x y n : Int) (w : World) (hT : Tab w) (hn : n ≤ 9223372036854775807) :
    Calls Tryd.prog 4 #[.int .i64 x, .int .i64 y, .int .i64 n] w (Done w) := by
  go_enter Tryd.func4, Tryd.ntmps4
  go_wp2_with fail
  refine (Awake.awake_any w hT).mono ?_
  rintro e w1 ⟨rfl, hb1⟩
  have hS1 := hb1.size
  obtain ⟨a, ha⟩ : ∃ a, a = (joinP x y n).1 := ⟨_, rfl⟩
  obtain ⟨b, hb⟩ : ∃ b, b = (joinP x y n).2 := ⟨_, rfl⟩
  have c1 := Join.join_any x y n hn w1
  rw [← ha, ← hb] at c1
  have c1' := Lib.hid c1
  have ha' := Lib.hid ha
  have hb' := Lib.hid hb
  clear c1 ha hb
  go_wp2_with fail
  refine c1'.out.mono ?_
  rintro e w2 ⟨rfl, hb2⟩
  have hB2 := hb1.trans (hb2.mono hS1)
  have c2 := RefJoin.join_any x y n hn w2
  rw [← ha'.out, ← hb'.out] at c2
  have c2' := Lib.hid c2
  have hS2 := hB2.size
  clear c2 ha' hb' c1' hb1 hb2 hS1
  go_wp2_with fail
  refine c2'.out.mono ?_
  rintro e w3 ⟨rfl, hb3⟩
  have hB3 := Lib.hid (hB2.trans (hb3.mono hS2))
  clear hb3 hB2 hS2 c2'
  go_wp2_with fail
  go_ret
  exact ⟨rfl, hB3.out⟩
end Go.Proofs.YtcfgcbcciaeabaaDoor.SumAdds
