/- SumFrames: frames are made and opened as the reference does; what is handed in stays; what comes back is the caller's own. -/
import Derived.Test.YtcfgcbcciaeabaaDoorAwake
namespace Go.Proofs.YtcfgcbcciaeabaaDoor.SumFrames
open Go.RowKit Go.Proofs.YtcfgcbcciaeabaaDoor.Bv Go.Proofs.YtcfgcbcciaeabaaDoor.Mem
open Go.Proofs.YtcfgcbcciaeabaaDoorW.PrintWords
open Go.Proofs.YtcfgcbcciaeabaaDoor.Crc
open Go.Proofs.YtcfgcbcciaeabaaDoor.More (Tab)
open Go.Proofs.YtcfgcbcciaeabaaDoor.Str
open Go.Proofs.YtcfgcbcciaeabaaDoor.Hold

theorem opened_length (l : List UInt8) : (opened l).1.length ≤ l.length := by
  unfold opened
  split
  · split
    · simp only [List.length_take]; omega
    · exact Nat.zero_le _
  · exact Nat.zero_le _

set_option maxRecDepth 100000 in
set_option maxHeartbeats 3200000 in
theorem frames_any (A B : Option Addr) (c d : Nat) (l m : List UInt8) (w : World) (hT : Tab w)
    (hr : ReadsOf eb 0 w A l.length l) (hn : l.length ≤ 140737488351232) (hm : ReadsOf eb 0 w B m.length m) (hmn : m.length ≤ 140737488351232) (hmd : m.length ≤ d) :
    Calls Tryd.prog 5 #[.slice A l.length c, .slice B m.length d] w (Done w) := by
  have hAlt := reads_lt hr
  have hBlt := reads_lt hm
  go_enter Tryd.func5, Tryd.ntmps5
  go_wp2_with fail
  refine (Awake.awake_any w hT).mono ?_
  rintro e w1 ⟨rfl, hb1⟩
  have hT1 := hT.on hb1
  go_wp2_with fail
  refine (Lent.lent_any A c l w1 (hr.below hb1) hn).mono ?_
  rintro e w2 ⟨rfl, ha, hb2⟩
  have hT2 := hT1.on hb2
  have hgA : ∀ a, A = some a → 0 < l.length → a.block ≠ w1.heap.size := fun a e h0 => by
    have := hAlt h0 a e
    have := hb1.size
    omega
  have hlt2 := ha.lt
  replace hb2 := hb1.trans (hb2.mono hb1.size)
  have hg := hb1.size
  have hw2 := hb2.size
  clear hT1 hb1 hAlt
  generalize w1.heap.size = g at ha hgA hlt2 hg ⊢
  have hrd := reads_marked ha (by omega)
  obtain ⟨M, hP⟩ : ∃ M, frame l = M := ⟨_, rfl⟩
  have hML : M.length ≤ 140737488351236 := by have := frame_length l; rw [hP] at this; omega
  have hP' := Lib.hid hP
  clear hP
  go_wp2_with fail
  refine (Frame.frame_any (some ⟨g, 0, none⟩) l.length (l.length + 3) l w2 hT2 hrd hn).mono ?_
  intro e w3 h
  rw [hP'.out] at h
  obtain ⟨x, rfl, hx, hb3⟩ := h
  have hT3 := hT2.on hb3
  have ha3 := ha.below hb3
  have hrd3 := hrd.below hb3
  have hx0 : ∀ k, x.ownBlock = some k → w2.heap.size ≤ k ∧ k < w3.heap.size := fun k e => hx.lt k e
  have hH3 := (((Hold.zero w).on hb2).on hb3).add hx hw2
  have h23 := hb3.size
  have hs3 := hH3.below.size
  clear hb3 hT2 ha hrd hx hb2
  go_wp2_with fail
  refine (Frame.frame_any (some ⟨g, 0, none⟩) l.length (l.length + 3) l w3 hT3 hrd3 hn).mono ?_
  intro e w4 h
  rw [hP'.out] at h
  obtain ⟨y, rfl, hy, hb4⟩ := h
  have ha4 := ha3.below hb4
  have hy0 : ∀ k, y.ownBlock = some k → w3.heap.size ≤ k ∧ k < w4.heap.size := fun k e => hy.lt k e
  have hH4 := (hH3.on hb4).add hy hs3
  have hr4 := hr.below hH4.below
  have h34 := hb4.size
  clear hb4 hT3 ha3 hrd3 hy hH3
  go_wp2_with fail
  refine (Lent.back_any g A c l w4 ha4 hr4 hgA hn).mono ?_
  rintro e w5 ⟨rfl, hb5⟩
  have hH5 := hH4.but hb5 hg (by
    intro p hp e
    simp only [List.mem_cons, List.not_mem_nil, or_false] at hp
    rcases hp with rfl | rfl
    · have := hy0 g e
      omega
    · have := hx0 g e
      omega)
  have h45 := hb5.size
  clear hb5 hH4 ha4 hr4
  have hm5 := hm.below hH5.below
  have hT5 := hT.on hH5.below
  go_wp2_with fail
  refine (Lent.lent_any B d m w5 hm5 hmn).mono ?_
  rintro e w6 ⟨rfl, ha6, hb6⟩
  have hT6 := hT5.on hb6
  have hs5 := hH5.below.size
  have hgB : ∀ a, B = some a → 0 < m.length → a.block ≠ w5.heap.size := fun a e h0 => by
    have := hBlt h0 a e
    omega
  have hlt6 := ha6.lt
  have hH6 := hH5.on hb6
  have h56 := hb6.size
  clear hT5 hb6 hBlt hm5 hH5
  have hg2 : w4.heap.size ≤ w5.heap.size := h45
  generalize w5.heap.size = g2 at ha6 hgB hlt6 hg2 hs5 ⊢
  have hrd6 := reads_marked ha6 (by omega)
  obtain ⟨O, cO, hQ⟩ : ∃ O cO, opened m = (O, cO) := ⟨_, _, rfl⟩
  have hOL : O.length ≤ 140737488351232 := by have := opened_length m; rw [hQ] at this; simp only at this; omega
  have hQ' := Lib.hid hQ
  clear hQ
  have hs6 := hH6.below.size
  go_wp2_with fail
  refine (Open.open_any (some ⟨g2, 0, none⟩) m.length (m.length + 3) m w6 hT6 hrd6 (by omega) (by omega)).mono ?_
  intro e w7 h
  rw [hQ'.out] at h
  obtain ⟨p, rfl, hp, hb7⟩ := h
  have hT7 := hT6.on hb7
  have ha7 := ha6.below hb7
  have hrd7 := hrd6.below hb7
  have hp0 : ∀ k, p.ownBlock = some k → w6.heap.size ≤ k ∧ k < w7.heap.size := fun k e => hp.lt k e
  have hH7 := (hH6.on hb7).add hp hs6
  have h67 := hb7.size
  have hs7 := hH7.below.size
  clear hb7 hT6 ha6 hrd6 hp hH6
  go_wp2_with fail
  refine (Open.open_any (some ⟨g2, 0, none⟩) m.length (m.length + 3) m w7 hT7 hrd7 (by omega) (by omega)).mono ?_
  intro e w8 h
  rw [hQ'.out] at h
  obtain ⟨q, rfl, hq, hb8⟩ := h
  have ha8 := ha7.below hb8
  have hq0 : ∀ k, q.ownBlock = some k → w7.heap.size ≤ k := fun k e => (hq.lt k e).1
  have hH8 := (hH7.on hb8).add hq hs7
  have hm8 := hm.below hH8.below
  clear hb8 hT7 ha7 hrd7 hq hH7
  go_wp2_with fail
  refine (Lent.back_any g2 B d m w8 ha8 hm8 hgB hmn).mono ?_
  rintro e w9 ⟨rfl, hb9⟩
  have hH9 := hH8.but hb9 hs5 (by
    intro p hp e
    simp only [List.mem_cons, List.not_mem_nil, or_false] at hp
    rcases hp with rfl | rfl | rfl | rfl
    · have := hq0 g2 e
      omega
    · have := hp0 g2 e
      omega
    · have := hy0 g2 e
      omega
    · have := hx0 g2 e
      omega)
  clear hb9 hH8 ha8 hm8
  have hr9 := hr.below hH9.below
  have hs9 := hH9.below.size
  go_wp2_with fail
  refine (Frame.refframe_any A l.length c l w9 hr9 hn).mono ?_
  intro e w10 h
  rw [hP'.out] at h
  obtain ⟨z, rfl, hz, hb10⟩ := h
  have hH10 := (hH9.on hb10).add hz hs9
  clear hb10 hz hH9 hr9
  have hm10 := hm.below hH10.below
  have hs10 := hH10.below.size
  go_wp2_with fail
  refine (Open.refopen_any B m.length d m w10 hm10 (by omega) hmd).mono ?_
  intro e w11 h
  rw [hQ'.out] at h
  obtain ⟨u, rfl, hu, hb11⟩ := h
  have hH11 := (hH10.on hb11).add hu hs10
  clear hb11 hu hH10 hm10
  have hu9 : w11.ownsRow w.heap.size 5 1 u O.length (encs eb O) := hH11.owns (u, O) (by simp)
  have hz9 : w11.ownsRow w.heap.size 5 1 z M.length (encs eb M) := hH11.owns (z, M) (by simp)
  have hq9 : w11.ownsRow w.heap.size 5 1 q O.length (encs eb O) := hH11.owns (q, O) (by simp)
  have hp9 : w11.ownsRow w.heap.size 5 1 p O.length (encs eb O) := hH11.owns (p, O) (by simp)
  have hy9 : w11.ownsRow w.heap.size 5 1 y M.length (encs eb M) := hH11.owns (y, M) (by simp)
  have hx9 : w11.ownsRow w.heap.size 5 1 x M.length (encs eb M) := hH11.owns (x, M) (by simp)
  obtain ⟨Au, cu, rfl, _, hru⟩ := own_reads_of_le (d := (0 : UInt8)) hu9
  obtain ⟨Az, cz, rfl, _, hrz⟩ := own_reads_of_le (d := (0 : UInt8)) hz9
  obtain ⟨Aq, cq, rfl, _, hrq⟩ := own_reads_of_le (d := (0 : UInt8)) hq9
  obtain ⟨Ap, cp, rfl, _, hrp⟩ := own_reads_of_le (d := (0 : UInt8)) hp9
  obtain ⟨Ay, cy, rfl, _, hry⟩ := own_reads_of_le (d := (0 : UInt8)) hy9
  obtain ⟨Ax, cx, rfl, _, hrx⟩ := own_reads_of_le (d := (0 : UInt8)) hx9
  have su := string_of (c := cu) hru
  have sz := string_of (c := cz) hrz
  have sq := string_of (c := cq) hrq
  have sp := string_of (c := cp) hrp
  have sy := string_of (c := cy) hry
  have sx := string_of (c := cx) hrx
  have hfin := Lib.hid (Hold.owned (w := w) (W := w11) (vs := [(.slice Ax M.length cx, M), (.slice Ay M.length cy, M), (.slice Ap O.length cp, O), (.slice Aq O.length cq, O)]) ⟨hH11.below, fun r hr => by
      simp only [List.mem_cons, List.not_mem_nil, or_false] at hr
      rcases hr with rfl | rfl | rfl | rfl
      · exact hx9
      · exact hy9
      · exact hp9
      · exact hq9⟩ (by intro r hr; simp only [List.mem_cons, List.not_mem_nil, or_false] at hr; rcases hr with rfl | rfl | rfl | rfl <;> (simp only; omega))
      (by
        refine List.Pairwise.cons ?_ (List.Pairwise.cons ?_ (List.Pairwise.cons ?_ (List.Pairwise.cons (by simp) List.Pairwise.nil)))
        · intro b hb
          simp only [List.mem_cons, List.not_mem_nil, or_false] at hb
          rcases hb with rfl | rfl | rfl
          · exact ne_of_range (fun k e => (hx0 k e).2) (fun k e => (hy0 k e).1) (Nat.le_refl _)
          · exact ne_of_range (fun k e => (hx0 k e).2) (fun k e => (hp0 k e).1) (by omega)
          · exact ne_of_range (fun k e => (hx0 k e).2) hq0 (by omega)
        · intro b hb
          simp only [List.mem_cons, List.not_mem_nil, or_false] at hb
          rcases hb with rfl | rfl
          · exact ne_of_range (fun k e => (hy0 k e).2) (fun k e => (hp0 k e).1) (by omega)
          · exact ne_of_range (fun k e => (hy0 k e).2) hq0 (by omega)
        · intro b hb
          simp only [List.mem_cons, List.not_mem_nil, or_false] at hb
          subst hb
          exact ne_of_range (fun k e => (hp0 k e).2) hq0 (Nat.le_refl _)) 4 rfl (by omega) #[.slice Ax M.length cx, .slice Ay M.length cy, .slice Ap O.length cp, .slice Aq O.length cq] rfl)
  clear hu9 hz9 hq9 hp9 hy9 hx9 hru hrz hrq hrp hry hrx hH11 hr hm hT hP' hQ' hgA hgB hx0 hy0 hp0 hq0 hML hOL
  go_wp2_with fail
  refine hfin.out.mono ?_
  rintro e w12 ⟨rfl, hb12⟩
  go_wp2_with fail
  go_ret
  exact ⟨rfl, hb12⟩
end Go.Proofs.YtcfgcbcciaeabaaDoor.SumFrames
