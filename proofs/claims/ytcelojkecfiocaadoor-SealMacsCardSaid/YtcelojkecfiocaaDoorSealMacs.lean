/- SealMacs: what bytes come to under a secret is the reference's; what is handed in stays; what comes back is the caller's own. -/
import Derived.Test.YtcelojkecfiocaaDoorAwake4
import Derived.Test.YtcelojkecfiocaaDoorHold
namespace Go.Proofs.YtcelojkecfiocaaDoor.SealMacs
open Go.RowKit Go.Proofs.YtcelojkecfiocaaDoor.Bv Go.Proofs.YtcelojkecfiocaaDoor.Mem
open Go.Proofs.YtcelojkecfiocaaDoorW.PrintWords
open Go.Proofs.YtcelojkecfiocaaDoor.Changed (Tabs RTabs)
open Go.Proofs.YtcelojkecfiocaaDoor.Pad (sb sb_length)
open Go.Proofs.YtcelojkecfiocaaDoor.RefFilled (info5)
open Go.Proofs.YtcelojkecfiocaaDoor.Str
open Go.Proofs.YtcelojkecfiocaaDoor.SealP
open Go.Proofs.YtcelojkecfiocaaDoor.Hold

theorem macP_length (k l : List UInt8) : (macP k l).1.length ≤ 32 := by
  unfold macP
  split
  · exact Nat.le_of_eq (Mac.mac_length _ _)
  · exact Nat.zero_le _

set_option maxRecDepth 100000 in
set_option maxHeartbeats 1600000 in
theorem macs_any (s : ByteArray) (A B : Option Addr) (c d : Nat) (l m : List UInt8) (w : World) (hT : Tabs w) (hR : RTabs w) (hs : s.size ≤ 140737488351232)
    (hr : ReadsOf eb 0 w A l.length l) (hn : l.length ≤ 140737488351232) (hm : ReadsOf eb 0 w B m.length m) :
    Calls Tryd.prog 7 #[.string s, .slice A l.length c, .slice B m.length d] w (Done w) := by
  have hAlt := reads_lt hr
  go_enter Tryd.func7, Tryd.ntmps7
  go_wp2_with fail
  refine (Awake4.awake_any w hT).mono ?_
  rintro e w1 ⟨rfl, hb1⟩
  have hT1 := hT.below hb1
  go_wp2_with fail
  refine (Lent.lent_any A c l w1 (hr.below hb1) hn).mono ?_
  rintro e w2 ⟨rfl, ha, hb2⟩
  have hT2 := hT1.below hb2
  have hg4 : 4 ≤ w1.heap.size := hT1.size
  have hgA : ∀ a, A = some a → 0 < l.length → a.block ≠ w1.heap.size := fun a e h0 => by
    have := hAlt h0 a e
    have := hb1.size
    omega
  have hlt2 := ha.lt
  replace hb2 := hb1.trans (hb2.mono hb1.size)
  have hg := hb1.size
  have hw2 := hb2.size
  clear hT1 hb1 hAlt
  generalize w1.heap.size = g at ha hg4 hgA hlt2 hg ⊢
  have hrd := Sums.reads_marked ha (by omega)
  obtain ⟨M, cM, hP⟩ : ∃ M cM, macP (sb s) l = (M, cM) := ⟨_, _, rfl⟩
  have hML : M.length ≤ 32 := by have := macP_length (sb s) l; rw [hP] at this; exact this
  have hP' := Lib.hid hP
  clear hP
  go_wp2_with fail
  refine (Mac.macx_any s (some ⟨g, 0, none⟩) l.length (l.length + 3) l w2 hT2 hs hrd hn).mono ?_
  intro e w3 h
  have h := mac_ans h
  rw [hP'.out] at h
  obtain ⟨x, rfl, hx, hb3⟩ := h
  have hT3 := hT2.below hb3
  have ha3 := ha.below hb3
  have hrd3 := hrd.below hb3
  have hx0 : ∀ k, x.ownBlock = some k → w2.heap.size ≤ k ∧ k < w3.heap.size := fun k e => hx.lt k e
  have hH3 := (((Hold.zero w).on hb2).on hb3).add hx hw2
  have hsz := hb3.size
  have hs3 := hH3.below.size
  clear hb3 hT2 ha hrd hx hb2
  go_wp2_with fail
  refine (Mac.macx_any s (some ⟨g, 0, none⟩) l.length (l.length + 3) l w3 hT3 hs hrd3 hn).mono ?_
  intro e w4 h
  have h := mac_ans h
  rw [hP'.out] at h
  obtain ⟨y, rfl, hy, hb4⟩ := h
  have ha4 := ha3.below hb4
  have hy0 : ∀ k, y.ownBlock = some k → w3.heap.size ≤ k := fun k e => (hy.lt k e).1
  have hH4 := Hold.add (hH3.on hb4) hy hs3
  have hr4 := hr.below hH4.below
  clear hb4 hT3 ha3 hrd3 hy hH3
  go_wp2_with fail
  refine (Lent.back_any g A c l w4 ha4 hr4 hgA hn).mono ?_
  rintro e w5 ⟨rfl, hb5⟩
  have hH5 := hH4.but hb5 hg (by
    intro p hp e
    simp only [List.mem_cons, List.not_mem_nil, or_false] at hp
    rcases hp with rfl | rfl
    · have := hy0 g e
      omega
    · have := hx0 g e
      omega)
  clear hb5 hH4 ha4 hr4
  have hR5 := hR.below hH5.below
  have hr5 := hr.below hH5.below
  go_wp2_with fail
  refine (RefMac.mac_any s A l.length c l w5 hR5 hs hr5 hn).mono ?_
  intro e w6 h
  have h := mac_ans h
  rw [hP'.out] at h
  obtain ⟨z, rfl, hz, hb6⟩ := h
  have hH6 := (hH5.on hb6).add hz hH5.below.size
  clear hb6 hz hH5 hR5 hr5
  have hr6 := hr.below hH6.below
  have hm6 := hm.below hH6.below
  go_wp2_with fail
  refine (Same.same_any A B l.length m.length c d l m w6 hr6 hm6).mono ?_
  rintro e w7 ⟨rfl, hb7⟩
  have hH7 := hH6.on hb7
  clear hb7 hH6 hr6 hm6
  have hbn : Below w7.heap.size w7 (w7.alloc (.cells #[] 5)) := (Below.refl _ _).alloc (Nat.le_refl _) _
  have hr7 := (hr.below hH7.below).below hbn
  have hoe := RefSeal.own_empty w7 w7.heap.size (Nat.le_refl _)
  have hbS := hbn.size
  go_wp2_with (at_builtin; (with_reducible refine print_append_row_of (w0 := w7) (o := ⟨some 48, _, _, _, _, _⟩) eb 0 w7.heap.size ?q1x0 (.tmp 46) (.tmp 47) 22 5 (.int .u8 0) 1 ?q1x1 Tryd.underlying22 info5 ?q1x2 ?q1x3 ?q1x4 _ [] l A l.length c ?q1x5 ?q1x6 hoe hr7 hbn ?q1x7 ?q1x8 ?q1x9); (case q1x0 => rfl); (case q1x1 => rfl); (case q1x2 => rfl); (case q1x3 => omega); (case q1x4 => exact fun _ => rfl); (case q1x5 => rfl); (case q1x6 => rfl); (case q1x7 => exact hbS); (case q1x8 => simp; omega); intro v8 w8 ho8 hb8 _ _; simp only [List.nil_append] at ho8)
  obtain ⟨A8, c8, rfl, _, hr8⟩ := own_reads_of_le (d := (0 : UInt8)) ho8
  have hH8 := hH7.on hb8
  clear ho8 hb8 hoe hr7 hbn hbS hH7
  have hrl8 := hr.below hH8.below
  have hrm8 := hm.below hH8.below
  refine (Same.same_any A A8 l.length l.length c c8 l l w8 hrl8 hr8).mono ?_
  rintro e w9 ⟨rfl, hb9⟩
  have hH9 := hH8.on hb9
  have hrl9 := hrl8.below hb9
  have hrm9 := hrm8.below hb9
  rw [decide_eq_true (rfl : l = l)]
  clear hb9 hH8 hrl8 hrm8 hr8
  have hz9 : w9.ownsRow w.heap.size 5 1 z M.length (encs eb M) := hH9.owns (z, M) (by simp)
  have hy9 : w9.ownsRow w.heap.size 5 1 y M.length (encs eb M) := hH9.owns (y, M) (by simp)
  have hx9 : w9.ownsRow w.heap.size 5 1 x M.length (encs eb M) := hH9.owns (x, M) (by simp)
  obtain ⟨Az, cz, rfl, _, hrz⟩ := own_reads_of_le (d := (0 : UInt8)) hz9
  obtain ⟨Ay, cy, rfl, _, hry⟩ := own_reads_of_le (d := (0 : UInt8)) hy9
  obtain ⟨Ax, cx, rfl, _, hrx⟩ := own_reads_of_le (d := (0 : UInt8)) hx9
  have sl := string_of (c := c) hrl9
  have sm := string_of (c := d) hrm9
  have sx := string_of (c := cx) hrx
  have sy := string_of (c := cy) hry
  have sz := string_of (c := cz) hrz
  have hfin := Lib.hid (Hold.owned (w := w) (W := w9) (vs := [(.slice Ax M.length cx, M), (.slice Ay M.length cy, M)]) ⟨hH9.below, fun p hp => by
      simp only [List.mem_cons, List.not_mem_nil, or_false] at hp
      rcases hp with rfl | rfl
      · exact hx9
      · exact hy9⟩ (by intro p hp; simp only [List.mem_cons, List.not_mem_nil, or_false] at hp; rcases hp with rfl | rfl <;> (simp only; omega))
      (by
        refine List.Pairwise.cons ?_ (List.Pairwise.cons (by simp) List.Pairwise.nil)
        intro b hb
        simp only [List.mem_cons, List.not_mem_nil, or_false] at hb
        subst hb
        exact ne_of_range (fun k e => (hx0 k e).2) hy0 (Nat.le_refl _)) 2 rfl (by omega) #[.slice Ax M.length cx, .slice Ay M.length cy] rfl)
  clear hz9 hy9 hx9 hrz hry hrx hrl9 hrm9 hH9 hr hm hT hR hP' hgA hx0 hy0 hML
  by_cases hlm : l = m
  · have hst := str_same hlm
    rw [decide_eq_true hlm]
    have hlm' := Lib.hid hlm
    clear hlm
    go_wp2_with fail
    refine hfin.out.mono ?_
    rintro e w10 ⟨rfl, hb10⟩
    go_wp2_with fail
    go_ret
    exact ⟨rfl, hb10⟩
  · have hst := str_other hlm
    rw [decide_eq_false hlm]
    have hlm' := Lib.hid hlm
    clear hlm
    go_wp2_with fail
    refine hfin.out.mono ?_
    rintro e w10 ⟨rfl, hb10⟩
    go_wp2_with fail
    go_ret
    exact ⟨rfl, hb10⟩
end Go.Proofs.YtcelojkecfiocaaDoor.SealMacs
