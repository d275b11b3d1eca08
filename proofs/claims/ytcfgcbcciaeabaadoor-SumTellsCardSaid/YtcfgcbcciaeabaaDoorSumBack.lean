/- SumBack: what is framed is opened as it was, and what is opened is framed as it stood. -/
import Derived.Test.YtcfgcbcciaeabaaDoorAwake
namespace Go.Proofs.YtcfgcbcciaeabaaDoor.SumBack
open Go.RowKit Go.Proofs.YtcfgcbcciaeabaaDoor.Bv Go.Proofs.YtcfgcbcciaeabaaDoor.Mem
open Go.Proofs.YtcfgcbcciaeabaaDoorW.PrintWords
open Go.Proofs.YtcfgcbcciaeabaaDoor.Crc
open Go.Proofs.YtcfgcbcciaeabaaDoor.More (Tab)
open Go.Proofs.YtcfgcbcciaeabaaDoor.Obj (info5)
open Go.Proofs.YtcfgcbcciaeabaaDoor.Str
open Go.Proofs.YtcfgcbcciaeabaaDoor.Hold

theorem open_frame (a : List UInt8) : opened (frame a) = (a, true) := by
  have e : (frame a).take ((frame a).length - 4) = a := by
    rw [frame_length, Nat.add_sub_cancel]
    unfold frame
    exact List.take_left
  unfold opened
  rw [if_pos (by rw [frame_length]; omega), e, if_pos rfl]
theorem open_true {l z : List UInt8} (h : opened l = (z, true)) : frame z = l := by
  unfold opened at h
  split at h
  · split at h
    · rename_i h2
      obtain rfl := congrArg Prod.fst h
      exact h2
    · simp at h
  · simp at h
theorem none_behind {a b : List UInt8} (h : opened (frame a ++ b) = (a, true)) : b = [] := by
  have := open_true h
  have h2 := congrArg List.length this
  rw [List.length_append] at h2
  exact List.eq_nil_of_length_eq_zero (by omega)
theorem open_length (l : List UInt8) : (opened l).1.length ≤ l.length - 4 := by
  unfold opened
  split
  · split
    · simp only [List.length_take]; omega
    · exact Nat.zero_le _
  · exact Nat.zero_le _

set_option maxRecDepth 100000 in
set_option maxHeartbeats 3200000 in
theorem back_any (A B : Option Addr) (ca cb : Nat) (a b : List UInt8) (w : World) (hT : Tab w) (ha : ReadsOf eb 0 w A a.length a) (hb : ReadsOf eb 0 w B b.length b) (hn : a.length + b.length ≤ 140737488351232) (hbc : b.length ≤ cb) :
    Calls Tryd.prog 8 #[.slice A a.length ca, .slice B b.length cb] w (Done w) := by
  obtain ⟨Y, cY, hY⟩ : ∃ Y cY, opened b = (Y, cY) := ⟨_, _, rfl⟩
  obtain ⟨Z, cZ, hZ⟩ : ∃ Z cZ, opened (frame a ++ b) = (Z, cZ) := ⟨_, _, rfl⟩
  have hYl : Y.length ≤ b.length - 4 := by have := open_length b; rw [hY] at this; exact this
  have hY' := Lib.hid hY
  have hZ' := Lib.hid hZ
  clear hY hZ
  go_enter Tryd.func8, Tryd.ntmps8
  go_wp2_with fail
  refine (Awake.awake_any w hT).mono ?_
  rintro e w1 ⟨rfl, hb1⟩
  have hS1 := hb1.size
  obtain ⟨F, hF⟩ : ∃ F, F = frame a := ⟨_, rfl⟩
  have hFl : F.length = a.length + 4 := by rw [hF]; exact frame_length a
  have hFa : F.length ≤ a.length + 4 := Nat.le_of_eq hFl
  have hF' := Lib.hid hF
  have c1 := Frame.frame_any A a.length ca a w1 (hT.on hb1) (ha.below hb1) (by omega)
  rw [← hF] at c1
  have c1' := Lib.hid c1
  clear hF hFl c1
  go_wp2_with fail
  refine c1'.out.mono ?_
  rintro e w2 ⟨v, rfl, ho, hb2⟩
  have hB2 := hb1.trans (hb2.mono hS1)
  have hS2 := hB2.size
  obtain ⟨A2, c2, rfl, hc2, hr2⟩ := own_reads_of_le (d := (0 : UInt8)) ho
  have d1 := Open.open_any A2 F.length c2 F w2 (hT.on hB2) hr2 (by omega) hc2
  rw [show opened F = (a, true) by rw [hF'.out]; exact open_frame a] at d1
  have d1' := Lib.hid d1
  clear c1' ho hb2 hr2 d1 hc2 hb1 hS1
  go_wp2_with fail
  refine d1'.out.mono ?_
  rintro e w3 ⟨v, rfl, ho, hb3⟩
  have hB3 := hB2.trans (hb3.mono hS2)
  have hS3 := hB3.size
  have hox := own_weaken ho hS2
  obtain ⟨Ax, cx, rfl, _, _⟩ := own_reads_of_le (d := (0 : UInt8)) ho
  have hox' := Lib.hid hox
  have d2 := Open.open_any B b.length cb b w3 (hT.on hB3) (hb.below hB3) (by omega) hbc
  rw [hY'.out] at d2
  have d2' := Lib.hid d2
  clear d1' d2 ho hb3 hB2 hS2 hox
  go_wp2_with fail
  refine d2'.out.mono ?_
  rintro e w4 ⟨v, rfl, ho, hb4⟩
  have hB4 := hB3.trans (hb4.mono hS3)
  have hS4 := hB4.size
  have hox4 := Lib.hid (pw_own_below hox'.out hb4)
  have hoy := own_weaken ho hS3
  obtain ⟨Ay, cy, rfl, _, _⟩ := own_reads_of_le (d := (0 : UInt8)) ho
  have hoy' := Lib.hid hoy
  have c3 := Frame.frame_any A a.length ca a w4 (hT.on hB4) (ha.below hB4) (by omega)
  rw [← hF'.out] at c3
  have c3' := Lib.hid c3
  clear d2' c3 ho hb4 hB3 hS3 hoy hox'
  go_wp2_with fail
  refine c3'.out.mono ?_
  rintro e w5 ⟨v5, rfl, ho5, hb5⟩
  have hb5r := hb.below (hB4.trans (hb5.mono hS4))
  have ho5' : w5.ownsRow w4.heap.size 5 1 v5 F.length (encs eb F) := ho5
  have hS5 := hb5.size
  clear c3' ho5
  go_wp2_with (at_builtin; (with_reducible refine print_append_row_of (w0 := w4) (o := ⟨some 28, _, _, _, _, _⟩) eb 0 w4.heap.size ?q0 (.tmp 26) (.tmp 27) 22 5 (.int .u8 0) 1 ?q1 Tryd.underlying22 info5 ?q2 ?q3 ?q4 v5 F b B b.length cb ?q5 ?q6 ho5' hb5r hb5 ?q7 ?q8 ?q9); (case q0 => rfl); (case q1 => rfl); (case q2 => rfl); (case q3 => omega); (case q4 => exact fun _ => rfl); (case q5 => rfl); (case q6 => rfl); (case q7 => exact hS5); (case q8 => omega); intro v6 w6 ho6 hb6 _ _)
  have hB6 := hB4.trans (hb6.mono hS4)
  have hS6 := hB6.size
  have hox6 := Lib.hid (pw_own_below hox4.out hb6)
  have hoy6 := Lib.hid (pw_own_below hoy'.out hb6)
  obtain ⟨L, hL⟩ : ∃ L, L = F ++ b := ⟨_, rfl⟩
  have hLl : L.length ≤ F.length + b.length := by rw [hL, List.length_append]; omega
  rw [← hL] at ho6
  obtain ⟨A6, c6, rfl, hc6, hr6⟩ := own_reads_of_le (d := (0 : UInt8)) ho6
  have d3 := Open.open_any A6 L.length c6 L w6 (hT.on hB6) hr6 (by omega) hc6
  rw [show opened L = (Z, cZ) by rw [hL, hF'.out]; exact hZ'.out] at d3
  have d3' := Lib.hid d3
  clear d3 ho6 hr6 hc6 hb6 hb5r ho5' hb5 hox4 hoy' hB4 hS4 hL hS5
  refine d3'.out.mono ?_
  rintro e w7 ⟨v7, rfl, ho7, hb7⟩
  have hB7 := hB6.trans (hb7.mono hS6)
  have hx7 := pw_own_below hox6.out hb7
  have hy7 := pw_own_below hoy6.out hb7
  obtain ⟨A7, c7, rfl, _, hr7⟩ := own_reads_of_le (d := (0 : UInt8)) ho7
  have sz := string_of (c := c7) hr7
  have sa := string_of (c := ca) (ha.below hB7)
  have sx : (convert 22 9 (.slice Ax a.length cx)).run Tryd.prog w7 = .ok (.string (str a)) w7 := by
    obtain ⟨A', c', e1, _, hr'⟩ := own_reads_of_le (d := (0 : UInt8)) hx7
    injection e1 with e1 e2 e3
    subst e1
    exact string_of (c := cx) hr'
  have hry : ReadsOf eb 0 w7 Ay Y.length Y := by
    obtain ⟨A', c', e1, _, hr'⟩ := own_reads_of_le (d := (0 : UInt8)) hy7
    injection e1 with e1 e2 e3
    subst e1
    exact hr'
  have hbr := hb.below hB7
  have hT7 := hT.on hB7
  have hB7' := Lib.hid hB7
  clear d3' hox6 hoy6 hx7 hy7 ho7 hr7 hb7 hB6 hS6 hB7 ha hb hT hF'
  have hst : ∀ l : List UInt8, ((str l).toList == (str l).toList) = true := fun l => str_same rfl
  have hsa := hst a
  clear hst
  have sc : (cZ = false) ∨ (cZ = true ∧ b.length ≤ 0) ∨ (cZ = true ∧ 0 < b.length ∧ Z ≠ a) := by
    cases hc : cZ with
    | false => exact .inl rfl
    | true =>
      right
      by_cases hb0 : b.length ≤ 0
      · exact .inl ⟨rfl, hb0⟩
      · refine .inr ⟨rfl, by omega, fun hza => ?_⟩
        have h := hZ'.out
        rw [hc, hza] at h
        have := none_behind h
        subst this
        exact hb0 (Nat.le_refl _)
  rcases sc with hcz | ⟨hcz, hb0⟩ | ⟨hcz, hb0, hza⟩
  · subst hcz
    clear hZ'
    cases hcy : cY with
    | false =>
      clear hry hbr hT7 hY'
      go_upto_region 9 with (fail)
      clear sa sx sz
      go_quiet (fail)
      go_wp2_with fail
      go_ret
      exact ⟨rfl, below_drewN hB7'.out _⟩
    | true =>
      have hfy : frame Y = b := open_true (by rw [hY'.out, hcy])
      have hfy' := Lib.hid hfy
      clear hY' hfy
      go_upto_region 9 with (fail)
      clear sa sx sz
      have hTd : Tab w7.drew := hT7.on (Below.refl _ _).drew
      have hrd : ReadsOf eb 0 w7.drew Ay Y.length Y := hry
      have hbrd : ReadsOf eb 0 w7.drew B b.length b := hbr
      have hBd : Below w.heap.size w w7.drew := below_drewN hB7'.out 1
      have hSd := hBd.size
      have sb0 := string_of (c := cb) hbrd
      have c9 := Frame.frame_any Ay Y.length cy Y w7.drew hTd hrd (by omega)
      rw [hfy'.out] at c9
      have c9' := Lib.hid c9
      have hsb : ((str b).toList == (str b).toList) = true := str_same rfl
      have hbrd' := Lib.hid hbrd
      clear hry hbr hT7 hTd hrd c9 hbrd
      go_region_with (go_at_call 19; refine c9'.out.mono ?_; rintro e w8 ⟨v8, rfl, ho8, hb8⟩; obtain ⟨A8, c8, rfl, _, hr8⟩ := own_reads_of_le (d := (0 : UInt8)) ho8; have s8 := string_of (c := c8) hr8; have sb8 := string_of (c := cb) (hbrd'.out.below hb8); clear ho8 hr8)
      all_goals
        have hB8 := Lib.hid (hBd.trans (hb8.mono hSd))
        clear hb8
        go_wp2_with fail
        go_ret
        exact ⟨rfl, hB8.out⟩
  · subst hcz
    clear hZ'
    cases hcy : cY with
    | false =>
      clear hry hbr hT7 hY'
      go_upto_region 9 with (fail)
      clear sa sx sz
      go_quiet (fail)
      go_wp2_with fail
      go_ret
      exact ⟨rfl, below_drewN hB7'.out _⟩
    | true =>
      have hfy : frame Y = b := open_true (by rw [hY'.out, hcy])
      have hfy' := Lib.hid hfy
      clear hY' hfy
      go_upto_region 9 with (fail)
      clear sa sx sz
      have hTd : Tab w7.drew := hT7.on (Below.refl _ _).drew
      have hrd : ReadsOf eb 0 w7.drew Ay Y.length Y := hry
      have hbrd : ReadsOf eb 0 w7.drew B b.length b := hbr
      have hBd : Below w.heap.size w w7.drew := below_drewN hB7'.out 1
      have hSd := hBd.size
      have sb0 := string_of (c := cb) hbrd
      have c9 := Frame.frame_any Ay Y.length cy Y w7.drew hTd hrd (by omega)
      rw [hfy'.out] at c9
      have c9' := Lib.hid c9
      have hsb : ((str b).toList == (str b).toList) = true := str_same rfl
      have hbrd' := Lib.hid hbrd
      clear hry hbr hT7 hTd hrd c9 hbrd
      go_region_with (go_at_call 19; refine c9'.out.mono ?_; rintro e w8 ⟨v8, rfl, ho8, hb8⟩; obtain ⟨A8, c8, rfl, _, hr8⟩ := own_reads_of_le (d := (0 : UInt8)) ho8; have s8 := string_of (c := c8) hr8; have sb8 := string_of (c := cb) (hbrd'.out.below hb8); clear ho8 hr8)
      all_goals
        have hB8 := Lib.hid (hBd.trans (hb8.mono hSd))
        clear hb8
        go_wp2_with fail
        go_ret
        exact ⟨rfl, hB8.out⟩
  · subst hcz
    have hne := str_other hza
    have hza' := Lib.hid hza
    clear hZ' hza
    cases hcy : cY with
    | false =>
      clear hry hbr hT7 hY'
      go_upto_region 9 with (fail)
      clear sa sx sz
      go_quiet (fail)
      go_wp2_with fail
      go_ret
      exact ⟨rfl, below_drewN hB7'.out _⟩
    | true =>
      have hfy : frame Y = b := open_true (by rw [hY'.out, hcy])
      have hfy' := Lib.hid hfy
      clear hY' hfy
      go_upto_region 9 with (fail)
      clear sa sx sz
      have hTd : Tab w7.drew := hT7.on (Below.refl _ _).drew
      have hrd : ReadsOf eb 0 w7.drew Ay Y.length Y := hry
      have hbrd : ReadsOf eb 0 w7.drew B b.length b := hbr
      have hBd : Below w.heap.size w w7.drew := below_drewN hB7'.out 1
      have hSd := hBd.size
      have sb0 := string_of (c := cb) hbrd
      have c9 := Frame.frame_any Ay Y.length cy Y w7.drew hTd hrd (by omega)
      rw [hfy'.out] at c9
      have c9' := Lib.hid c9
      have hsb : ((str b).toList == (str b).toList) = true := str_same rfl
      have hbrd' := Lib.hid hbrd
      clear hry hbr hT7 hTd hrd c9 hbrd
      go_region_with (go_at_call 19; refine c9'.out.mono ?_; rintro e w8 ⟨v8, rfl, ho8, hb8⟩; obtain ⟨A8, c8, rfl, _, hr8⟩ := own_reads_of_le (d := (0 : UInt8)) ho8; have s8 := string_of (c := c8) hr8; have sb8 := string_of (c := cb) (hbrd'.out.below hb8); clear ho8 hr8)
      all_goals
        have hB8 := Lib.hid (hBd.trans (hb8.mono hSd))
        clear hb8
        go_wp2_with fail
        go_ret
        exact ⟨rfl, hB8.out⟩
end Go.Proofs.YtcfgcbcciaeabaaDoor.SumBack
