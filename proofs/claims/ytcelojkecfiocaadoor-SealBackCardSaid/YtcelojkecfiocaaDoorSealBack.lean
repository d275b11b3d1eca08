/- SealBack: what is sealed is opened as it was; with any other seal it is refused. -/
import Derived.Test.YtcelojkecfiocaaDoorAwake4
import Derived.Test.YtcelojkecfiocaaDoorHold
namespace Go.Proofs.YtcelojkecfiocaaDoor.SealBack
open Go.RowKit Go.Proofs.YtcelojkecfiocaaDoor.Bv Go.Proofs.YtcelojkecfiocaaDoor.Mem
open Go.Proofs.YtcelojkecfiocaaDoorW.PrintWords
open Go.Proofs.YtcelojkecfiocaaDoor.Changed (Tabs RTabs)
open Go.Proofs.YtcelojkecfiocaaDoor.Pad (sb sb_length)
open Go.Proofs.YtcelojkecfiocaaDoor.Str
open Go.Proofs.YtcelojkecfiocaaDoor.SealP
open Go.Proofs.YtcelojkecfiocaaDoor.Hold (Done)
open Go.Proofs.YtcelojkecfiocaaDoor.Owned (Own)

/-- What opens is its own seal. -/
theorem open_ok {k m : List UInt8} (h : (openP k m).2 = 0) : k.length ≤ 200 ∧ 16 ≤ m.length ∧ sealed k (m.take (m.length - 16)) = m ∧ openP k m = (m.take (m.length - 16), 0) := by
  unfold openP at h ⊢
  split at h
  · rename_i h1
    split at h
    · rename_i h2
      split at h
      · rename_i h3
        exact ⟨h1, h2, h3, by rw [if_pos h1, if_pos h2, if_pos h3]⟩
      · exact absurd h (by decide)
    · exact absurd h (by decide)
  · exact absurd h (by decide)
/-- A seal with one byte laid anew. -/
theorem open_set (k l : List UInt8) (hk : k.length ≤ 200) (j : Nat) (hj : j < 16) (T : UInt8) :
    openP k ((sealed k l).set (l.length + j) T) = if Sha.b8 (sealed k l) (l.length + j) = T then (l, 0) else ([], 41) := by
  have hlen : ((sealed k l).set (l.length + j) T).length = l.length + 16 := by rw [List.length_set, sealed_length]
  have hlt : l.length + j < (sealed k l).length := by rw [sealed_length]; omega
  have e : ((sealed k l).set (l.length + j) T).take (l.length + 16 - 16) = l := by
    rw [Nat.add_sub_cancel, List.take_set_of_le (by omega)]
    unfold sealed
    exact List.take_left
  unfold openP
  rw [if_pos hk, if_pos (by rw [hlen]; omega), hlen, e]
  by_cases h : Sha.b8 (sealed k l) (l.length + j) = T
  · rw [if_pos h, if_pos]
    subst h
    unfold Sha.b8
    rw [List.getD_eq_getElem?_getD, List.getElem?_eq_getElem hlt, Option.getD_some, List.set_getElem_self]
  · rw [if_neg h, if_neg]
    intro h2
    apply h
    have h3 := congrArg (fun x => Sha.b8 x (l.length + j)) h2
    simp only [Sha.b8] at h3 ⊢
    rw [List.getD_eq_getElem?_getD, List.getD_eq_getElem?_getD, List.getElem?_set_self hlt] at h3
    rw [List.getD_eq_getElem?_getD]
    exact h3
theorem tb_ne {X T : UInt8} (h : X ≠ T) : (tb X == tb T) = false := by
  rw [beq_eq_false_iff_ne]
  intro h2
  apply h
  unfold tb at h2
  exact UInt8.toNat_inj.1 (Int.ofNat.inj h2)

set_option maxRecDepth 100000 in
set_option maxHeartbeats 6400000 in
theorem back_any (s : ByteArray) (A B : Option Addr) (c d : Nat) (l m : List UInt8) (n : Int) (T : UInt8) (w : World) (hT : Tabs w) (hs : s.size ≤ 140737488351232)
    (hr : ReadsOf eb 0 w A l.length l) (hn : l.length ≤ 140737488351232) (hm : ReadsOf eb 0 w B m.length m) (hmn : m.length ≤ 140737488351232) (hmd : m.length ≤ d) (hn1 : -9223372036854775808 ≤ n) (hn2 : n ≤ 9223372036854775807) :
    Calls Tryd.prog 9 #[.string s, .slice A l.length c, .int .i64 n, .int .u8 (tb T), .slice B m.length d] w (Done w) := by
  have hsl := sb_length s
  go_enter Tryd.func9, Tryd.ntmps9
  go_wp2_with fail
  refine (Awake4.awake_any w hT).mono ?_
  rintro e w1 ⟨rfl, hb1⟩
  have hT1 := hT.below hb1
  have hm1 := hm.below hb1
  have hs1 := hb1.size
  obtain ⟨O, cO, hQ⟩ : ∃ O cO, openP (sb s) m = (O, cO) := ⟨_, _, rfl⟩
  have hQ' := Lib.hid hQ
  clear hQ
  go_wp2_with fail
  refine (Open.open_any s B m.length d m w1 hT1 hs hm1 (by omega) hmd).mono ?_
  intro e w2 h
  rw [hQ'.out] at h
  obtain ⟨x, rfl, hx, hb2⟩ := h
  have hB2 := hb1.trans (hb2.mono hs1)
  obtain ⟨Ax, cx, rfl, _, hrx⟩ := own_reads_of_le (d := (0 : UInt8)) hx
  clear hb1 hb2 hT1 hm1 hs1 hx
  by_cases hf : cO = 0
  · have ho : (openP (sb s) m).2 = 0 := by rw [hQ'.out]; exact hf
    obtain ⟨hk, h16, hse, hoe⟩ := open_ok ho
    have hO : O = m.take (m.length - 16) := by rw [hQ'.out] at hoe; exact congrArg Prod.fst hoe
    have hOl : O.length ≤ 140737488351232 := by rw [hO, List.length_take]; omega
    have hsl2 : sealP (sb s) O = (m, 0) := by rw [sealP, if_pos hk, hO, hse]
    have hsl3 := Lib.hid hsl2
    have hT2 := hT.below hB2
    have hs2 := hB2.size
    subst hf
    have hk200 : s.size ≤ 200 := by omega
    clear hsl2 hO hoe hse ho hQ' hk h16
    go_wp2_with fail
    refine (SealP.seal_any s Ax O.length cx O w2 hT2 hs hrx hOl).mono ?_
    intro e w3 h
    rw [hsl3.out] at h
    obtain ⟨y, rfl, hy, hb3⟩ := h
    have hB3 := hB2.trans (hb3.mono hs2)
    have hm3 := hm.below hB3
    obtain ⟨Ay, cy, rfl, _, hry⟩ := own_reads_of_le (d := (0 : UInt8)) hy
    have sm := string_of (c := d) hm3
    have sy := string_of (c := cy) hry
    clear hB2 hb3 hT2 hs2 hy hrx hm3 hsl3 hry
    go_wp2_with fail
    clear sm sy
    have hp := Lib.hid (show sealP (sb s) l = (sealed (sb s) l, 0) by rw [sealP, if_pos (by omega)])
    have hos := Lib.hid (Awake4.open_seal (sb s) l (by omega))
    have hset := Lib.hid (open_set (sb s) l (by omega))
    have hS0 := sealed_length (sb s) l
    obtain ⟨S, hS⟩ : ∃ S, S = sealed (sb s) l := ⟨_, rfl⟩
    rw [← hS] at hS0 hp hos hset
    have hS' := Lib.hid hS
    have hSle : S.length ≤ l.length + 16 := Nat.le_of_eq hS0
    have hSge : l.length + 16 ≤ S.length := Nat.le_of_eq hS0.symm
    have hS0' := Lib.hid hS0
    clear hS hS0
    refine (SealP.seal_any s A l.length c l w3 (hT.below hB3) hs (hr.below hB3) hn).mono ?_
    intro e w4 h
    rw [hp.out] at h
    obtain ⟨v, rfl, hv, hb4⟩ := h
    have hB4 := hB3.trans (hb4.mono hB3.size)
    obtain ⟨Av, cv, rfl, hcv, hrv⟩ := own_reads_of_le (d := (0 : UInt8)) hv
    have hv4 : w4.ownsRow w.heap.size 5 1 (.slice Av S.length cv) S.length (encs eb S) := own_weaken hv hB3.size
    obtain ⟨g, cv', e1, hg1, hg2⟩ := hv4.form (by omega)
    injection e1 with e1 e2 e3
    subst e1
    clear e2 e3 hg1 hg2 cv'
    have hT4 := hT.below hB4
    clear hv hb4 hB3 hp
    go_wp2_with fail
    refine (Open.open_any s (some ⟨g, 0, none⟩) S.length cv S w4 hT4 hs hrv (by omega) hcv).mono ?_
    intro e w5 h
    rw [hos.out] at h
    obtain ⟨y5, rfl, hy5, hb5⟩ := h
    have hB5 := hB4.trans (hb5.mono hB4.size)
    have hv5 := pw_own_below hv4 hb5
    have hr5 := hr.below hB5
    obtain ⟨A5, c5, rfl, _, hry5⟩ := own_reads_of_le (d := (0 : UInt8)) hy5
    have s5 := string_of (c := c5) hry5
    have sl := string_of (c := c) hr5
    have hrv5 := hrv.below hb5
    have hT5 := hT.below hB5
    clear hb5 hv4 hB4 hy5 hry5 hrv hos hT4
    obtain ⟨j, hj, hj16⟩ : ∃ j : Nat, (if n < 0 then -(n + 1) else n) % 16 = (j : Int) ∧ j < 16 := by
      refine ⟨((if n < 0 then -(n + 1) else n) % 16).toNat, ?_, ?_⟩ <;> omega
    have hlt : l.length + j < S.length := by omega
    have hcell : w5.cell? ⟨g, l.length + j, none⟩ = some (eb (Sha.b8 S (l.length + j))) := by
      have := reads_cell hrv5 (l.length + j) hlt
      rwa [add_plain] at this
    have hfree : w5.frozen? ⟨g, l.length + j, none⟩ = false := by
      obtain ⟨g', e1, _, hfz⟩ := Owned.Own.at hv5 rfl (l.length + j) hlt
      injection e1 with e1
      injection e1 with e1
      subst e1
      exact hfz
    have hset5 := Owned.Own.set hv5 rfl (l.length + j) T
    have hpset := Lib.hid (hset.out j hj16 T)
    obtain ⟨X, hX⟩ : ∃ X, X = Sha.b8 S (l.length + j) := ⟨_, rfl⟩
    rw [← hX] at hcell hpset
    have hbs5 := below_setCell hB5 (p := ⟨g, l.length + j, none⟩) ((hv5.lt g rfl).1) (eb T)
    have hset6 := Lib.hid hset5.1
    have hbs6 := Lib.hid hbs5
    have hsz5 := hbs5.size
    clear hset5 hbs5 hrv5 hv5 hset hX hr5 hB5
    have hTs := Lib.hid (hT.below hbs6.out)
    clear hT5
    obtain ⟨S2, hS2⟩ : ∃ S2, S2 = S.set (l.length + j) T := ⟨_, rfl⟩
    rw [← hS2] at hset6 hpset
    have hS2l : S2.length = S.length := by rw [hS2, List.length_set]
    have hS2b : S2.length ≤ S.length := Nat.le_of_eq hS2l
    have hS2l' := Lib.hid hS2l
    have hcv2 : S2.length ≤ cv := by omega
    clear hS2 hS2l
    by_cases hneg : n < 0
    · have hj' : (-(n + 1)) % 16 = (j : Int) := by rw [if_pos hneg] at hj; exact hj
      clear hj
      go_upto_region 15 with fail
      obtain ⟨n2, hn2'⟩ : ∃ n2, n2 = -(n + 1) := ⟨_, rfl⟩
      rw [← hn2'] at hj' ⊢
      have hn3 : 0 ≤ n2 := by omega
      have hn4 : n2 ≤ 9223372036854775807 := by omega
      clear hn2' hneg
      go_wp2_with fail
      have hB6 := hbs6.out
      obtain ⟨A6, c6, e1, _, hr6⟩ := own_reads_of_le (d := (0 : UInt8)) hset6.out
      injection e1 with e1 e2 e3
      subst e1
      rw [hS2l'.out] at hr6
      clear e2 e3 hset6 hbs6
      refine (Open.open_any s (some ⟨g, 0, none⟩) S.length cv S2 _ hTs.out hs hr6 (by omega) hcv).mono ?_
      intro e w7 h
      rw [hpset.out] at h
      have hsz6 := hB6.size
      by_cases hX : X = T
      · have htb : (tb X == tb T) = true := by rw [hX]; exact beq_self_eq_true _
        rw [if_pos hX] at h
        obtain ⟨y7, rfl, hy7, hb7⟩ := h
        have hB7 := Lib.hid (hB6.trans (hb7.mono hsz6))
        obtain ⟨A7, c7, rfl, _, hr7⟩ := own_reads_of_le (d := (0 : UInt8)) hy7
        rw [htb]
        clear hy7 hb7 hB6 hX htb hr6 hr7 hcell
        go_wp2_with fail
        go_ret
        exact ⟨rfl, hB7.out⟩
      · have htb := tb_ne hX
        rw [if_neg hX] at h
        obtain ⟨y7, rfl, hy7, hb7⟩ := h
        have hB7 := Lib.hid (hB6.trans (hb7.mono hsz6))
        obtain ⟨A7, c7, rfl, _, hr7⟩ := own_reads_of_le (d := (0 : UInt8)) hy7
        rw [htb]
        clear hy7 hb7 hB6 hX htb hr6 hr7 hcell
        go_wp2_with fail
        go_ret
        exact ⟨rfl, hB7.out⟩
    · have hj' : n % 16 = (j : Int) := by rw [if_neg hneg] at hj; exact hj
      clear hj
      go_wp2_with fail
      have hB6 := hbs6.out
      obtain ⟨A6, c6, e1, _, hr6⟩ := own_reads_of_le (d := (0 : UInt8)) hset6.out
      injection e1 with e1 e2 e3
      subst e1
      rw [hS2l'.out] at hr6
      clear e2 e3 hset6 hbs6
      refine (Open.open_any s (some ⟨g, 0, none⟩) S.length cv S2 _ hTs.out hs hr6 (by omega) hcv).mono ?_
      intro e w7 h
      rw [hpset.out] at h
      have hsz6 := hB6.size
      by_cases hX : X = T
      · have htb : (tb X == tb T) = true := by rw [hX]; exact beq_self_eq_true _
        rw [if_pos hX] at h
        obtain ⟨y7, rfl, hy7, hb7⟩ := h
        have hB7 := Lib.hid (hB6.trans (hb7.mono hsz6))
        obtain ⟨A7, c7, rfl, _, hr7⟩ := own_reads_of_le (d := (0 : UInt8)) hy7
        rw [htb]
        clear hy7 hb7 hB6 hX htb hr6 hr7 hcell
        go_wp2_with fail
        go_ret
        exact ⟨rfl, hB7.out⟩
      · have htb := tb_ne hX
        rw [if_neg hX] at h
        obtain ⟨y7, rfl, hy7, hb7⟩ := h
        have hB7 := Lib.hid (hB6.trans (hb7.mono hsz6))
        obtain ⟨A7, c7, rfl, _, hr7⟩ := own_reads_of_le (d := (0 : UInt8)) hy7
        rw [htb]
        clear hy7 hb7 hB6 hX htb hr6 hr7 hcell
        go_wp2_with fail
        go_ret
        exact ⟨rfl, hB7.out⟩
  · have hf0 : (cO == 0) = false := by rw [beq_eq_false_iff_ne]; exact hf
    clear hrx hQ'
    go_wp2_with fail
    have hB3 := hB2
    clear hB2
    clear hf hf0
    by_cases hk200 : s.size ≤ 200
    · have hp := Lib.hid (show sealP (sb s) l = (sealed (sb s) l, 0) by rw [sealP, if_pos (by omega)])
      have hos := Lib.hid (Awake4.open_seal (sb s) l (by omega))
      have hset := Lib.hid (open_set (sb s) l (by omega))
      have hS0 := sealed_length (sb s) l
      obtain ⟨S, hS⟩ : ∃ S, S = sealed (sb s) l := ⟨_, rfl⟩
      rw [← hS] at hS0 hp hos hset
      have hS' := Lib.hid hS
      have hSle : S.length ≤ l.length + 16 := Nat.le_of_eq hS0
      have hSge : l.length + 16 ≤ S.length := Nat.le_of_eq hS0.symm
      have hS0' := Lib.hid hS0
      clear hS hS0
      refine (SealP.seal_any s A l.length c l w2 (hT.below hB3) hs (hr.below hB3) hn).mono ?_
      intro e w4 h
      rw [hp.out] at h
      obtain ⟨v, rfl, hv, hb4⟩ := h
      have hB4 := hB3.trans (hb4.mono hB3.size)
      obtain ⟨Av, cv, rfl, hcv, hrv⟩ := own_reads_of_le (d := (0 : UInt8)) hv
      have hv4 : w4.ownsRow w.heap.size 5 1 (.slice Av S.length cv) S.length (encs eb S) := own_weaken hv hB3.size
      obtain ⟨g, cv', e1, hg1, hg2⟩ := hv4.form (by omega)
      injection e1 with e1 e2 e3
      subst e1
      clear e2 e3 hg1 hg2 cv'
      have hT4 := hT.below hB4
      clear hv hb4 hB3 hp
      go_wp2_with fail
      refine (Open.open_any s (some ⟨g, 0, none⟩) S.length cv S w4 hT4 hs hrv (by omega) hcv).mono ?_
      intro e w5 h
      rw [hos.out] at h
      obtain ⟨y5, rfl, hy5, hb5⟩ := h
      have hB5 := hB4.trans (hb5.mono hB4.size)
      have hv5 := pw_own_below hv4 hb5
      have hr5 := hr.below hB5
      obtain ⟨A5, c5, rfl, _, hry5⟩ := own_reads_of_le (d := (0 : UInt8)) hy5
      have s5 := string_of (c := c5) hry5
      have sl := string_of (c := c) hr5
      have hrv5 := hrv.below hb5
      have hT5 := hT.below hB5
      clear hb5 hv4 hB4 hy5 hry5 hrv hos hT4
      obtain ⟨j, hj, hj16⟩ : ∃ j : Nat, (if n < 0 then -(n + 1) else n) % 16 = (j : Int) ∧ j < 16 := by
        refine ⟨((if n < 0 then -(n + 1) else n) % 16).toNat, ?_, ?_⟩ <;> omega
      have hlt : l.length + j < S.length := by omega
      have hcell : w5.cell? ⟨g, l.length + j, none⟩ = some (eb (Sha.b8 S (l.length + j))) := by
        have := reads_cell hrv5 (l.length + j) hlt
        rwa [add_plain] at this
      have hfree : w5.frozen? ⟨g, l.length + j, none⟩ = false := by
        obtain ⟨g', e1, _, hfz⟩ := Owned.Own.at hv5 rfl (l.length + j) hlt
        injection e1 with e1
        injection e1 with e1
        subst e1
        exact hfz
      have hset5 := Owned.Own.set hv5 rfl (l.length + j) T
      have hpset := Lib.hid (hset.out j hj16 T)
      obtain ⟨X, hX⟩ : ∃ X, X = Sha.b8 S (l.length + j) := ⟨_, rfl⟩
      rw [← hX] at hcell hpset
      have hbs5 := below_setCell hB5 (p := ⟨g, l.length + j, none⟩) ((hv5.lt g rfl).1) (eb T)
      have hset6 := Lib.hid hset5.1
      have hbs6 := Lib.hid hbs5
      have hsz5 := hbs5.size
      clear hset5 hbs5 hrv5 hv5 hset hX hr5 hB5
      have hTs := Lib.hid (hT.below hbs6.out)
      clear hT5
      obtain ⟨S2, hS2⟩ : ∃ S2, S2 = S.set (l.length + j) T := ⟨_, rfl⟩
      rw [← hS2] at hset6 hpset
      have hS2l : S2.length = S.length := by rw [hS2, List.length_set]
      have hS2b : S2.length ≤ S.length := Nat.le_of_eq hS2l
      have hS2l' := Lib.hid hS2l
      have hcv2 : S2.length ≤ cv := by omega
      clear hS2 hS2l
      by_cases hneg : n < 0
      · have hj' : (-(n + 1)) % 16 = (j : Int) := by rw [if_pos hneg] at hj; exact hj
        clear hj
        go_upto_region 15 with fail
        obtain ⟨n2, hn2'⟩ : ∃ n2, n2 = -(n + 1) := ⟨_, rfl⟩
        rw [← hn2'] at hj' ⊢
        have hn3 : 0 ≤ n2 := by omega
        have hn4 : n2 ≤ 9223372036854775807 := by omega
        clear hn2' hneg
        go_wp2_with fail
        have hB6 := hbs6.out
        obtain ⟨A6, c6, e1, _, hr6⟩ := own_reads_of_le (d := (0 : UInt8)) hset6.out
        injection e1 with e1 e2 e3
        subst e1
        rw [hS2l'.out] at hr6
        clear e2 e3 hset6 hbs6
        refine (Open.open_any s (some ⟨g, 0, none⟩) S.length cv S2 _ hTs.out hs hr6 (by omega) hcv).mono ?_
        intro e w7 h
        rw [hpset.out] at h
        have hsz6 := hB6.size
        by_cases hX : X = T
        · have htb : (tb X == tb T) = true := by rw [hX]; exact beq_self_eq_true _
          rw [if_pos hX] at h
          obtain ⟨y7, rfl, hy7, hb7⟩ := h
          have hB7 := Lib.hid (hB6.trans (hb7.mono hsz6))
          obtain ⟨A7, c7, rfl, _, hr7⟩ := own_reads_of_le (d := (0 : UInt8)) hy7
          rw [htb]
          clear hy7 hb7 hB6 hX htb hr6 hr7 hcell
          go_wp2_with fail
          go_ret
          exact ⟨rfl, hB7.out⟩
        · have htb := tb_ne hX
          rw [if_neg hX] at h
          obtain ⟨y7, rfl, hy7, hb7⟩ := h
          have hB7 := Lib.hid (hB6.trans (hb7.mono hsz6))
          obtain ⟨A7, c7, rfl, _, hr7⟩ := own_reads_of_le (d := (0 : UInt8)) hy7
          rw [htb]
          clear hy7 hb7 hB6 hX htb hr6 hr7 hcell
          go_wp2_with fail
          go_ret
          exact ⟨rfl, hB7.out⟩
      · have hj' : n % 16 = (j : Int) := by rw [if_neg hneg] at hj; exact hj
        clear hj
        go_wp2_with fail
        have hB6 := hbs6.out
        obtain ⟨A6, c6, e1, _, hr6⟩ := own_reads_of_le (d := (0 : UInt8)) hset6.out
        injection e1 with e1 e2 e3
        subst e1
        rw [hS2l'.out] at hr6
        clear e2 e3 hset6 hbs6
        refine (Open.open_any s (some ⟨g, 0, none⟩) S.length cv S2 _ hTs.out hs hr6 (by omega) hcv).mono ?_
        intro e w7 h
        rw [hpset.out] at h
        have hsz6 := hB6.size
        by_cases hX : X = T
        · have htb : (tb X == tb T) = true := by rw [hX]; exact beq_self_eq_true _
          rw [if_pos hX] at h
          obtain ⟨y7, rfl, hy7, hb7⟩ := h
          have hB7 := Lib.hid (hB6.trans (hb7.mono hsz6))
          obtain ⟨A7, c7, rfl, _, hr7⟩ := own_reads_of_le (d := (0 : UInt8)) hy7
          rw [htb]
          clear hy7 hb7 hB6 hX htb hr6 hr7 hcell
          go_wp2_with fail
          go_ret
          exact ⟨rfl, hB7.out⟩
        · have htb := tb_ne hX
          rw [if_neg hX] at h
          obtain ⟨y7, rfl, hy7, hb7⟩ := h
          have hB7 := Lib.hid (hB6.trans (hb7.mono hsz6))
          obtain ⟨A7, c7, rfl, _, hr7⟩ := own_reads_of_le (d := (0 : UInt8)) hy7
          rw [htb]
          clear hy7 hb7 hB6 hX htb hr6 hr7 hcell
          go_wp2_with fail
          go_ret
          exact ⟨rfl, hB7.out⟩
    · have hp := Lib.hid (show sealP (sb s) l = ([], 2) by rw [sealP, if_neg (by omega)])
      refine (SealP.seal_any s A l.length c l w2 (hT.below hB3) hs (hr.below hB3) hn).mono ?_
      intro e w4 h
      rw [hp.out] at h
      obtain ⟨v, rfl, hv, hb4⟩ := h
      have hB4 := Lib.hid (hB3.trans (hb4.mono hB3.size))
      obtain ⟨Av, cv, rfl, _, hrv⟩ := own_reads_of_le (d := (0 : UInt8)) hv
      clear hb4 hB3 hrv hv
      go_wp2_with fail
      go_ret
      refine ⟨?_, hB4.out⟩
      show Ending.returned (.bool (decide (200 < (s.size : Int)))) = _
      rw [decide_eq_true (by omega)]
end Go.Proofs.YtcelojkecfiocaaDoor.SealBack
