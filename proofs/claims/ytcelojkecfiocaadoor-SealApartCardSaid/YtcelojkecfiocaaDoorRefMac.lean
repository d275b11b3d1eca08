/- The reference's Mac: the digest of bytes under a secret. Conditions: lengths below 2^47. -/
import Derived.Test.YtcelojkecfiocaaDoorRefUnder
import Derived.Test.YtcelojkecfiocaaDoorMac
namespace Go.Proofs.YtcelojkecfiocaaDoor.RefMac
open Go.RowKit Go.Proofs.YtcelojkecfiocaaDoor.Bv Go.Proofs.YtcelojkecfiocaaDoor.Mem
open Go.Proofs.YtcelojkecfiocaaDoorW.PrintWords
open Go.Proofs.YtcelojkecfiocaaDoor.Changed (Tabs RTabs)
open Go.Proofs.YtcelojkecfiocaaDoor.Pad (sb pad pad_length sb_length)
open Go.Proofs.YtcelojkecfiocaaDoor.Under (turned)
open Go.Proofs.YtcelojkecfiocaaDoor.Mac (tb54 tb92 mac mac_length MacPost)
open Go.Proofs.YtcelojkecfiocaaDoor.RefFilled (info5)

theorem turned_length (k : List UInt8) (x : UInt8) : (turned (pad k) x).length = 64 := by rw [turned, List.length_map]; exact pad_length k

set_option maxRecDepth 100000 in
set_option maxHeartbeats 1600000 in
theorem mac_any (s : ByteArray) (A : Option Addr) (n c : Nat) (l : List UInt8) (w : World) (hT : RTabs w) (hs : s.size ≤ 140737488351232) (hr : ReadsOf eb 0 w A n l) (hn : n ≤ 140737488351232) :
    Calls Tryd.prog 26 #[.string s, .slice A n c] w (MacPost (sb s) l w) := by
  obtain rfl := hr.1
  have hsl := sb_length s
  go_enter Tryd.func26, Tryd.ntmps26
  by_cases h : s.size ≤ 200
  · go_upto_region 3 with fail
    have hu := RefUnder.under_any s 54 w hT hs
    rw [tb54] at hu
    have hu1 := Lib.hid hu
    clear hu
    go_wp2_with fail
    refine hu1.out.mono ?_
    rintro e w1 ⟨v1, rfl, ho1, hb1⟩
    have hr1 := hr.below hb1
    obtain ⟨I, hI⟩ : ∃ I, I = turned (pad (sb s)) 54 := ⟨_, rfl⟩
    have hIl : I.length = 64 := by rw [hI]; exact turned_length _ _
    rw [← hI] at ho1
    have hI' := Lib.hid hI
    have hIl' := Lib.hid hIl
    have hIle : I.length ≤ 64 := Nat.le_of_eq hIl
    have hIge : 64 ≤ I.length := Nat.le_of_eq hIl.symm
    clear hI hIl hu1
    go_upto_region 5 with (at_builtin; (with_reducible refine print_append_row_of (w0 := w) (o := ⟨some 16, _, _, _, _, _⟩) eb 0 w.heap.size ?q1x0 (.tmp 14) (.tmp 15) 22 5 (.int .u8 0) 1 ?q1x1 Tryd.underlying22 info5 ?q1x2 ?q1x3 ?q1x4 v1 I l A l.length c ?q1x5 ?q1x6 ho1 hr1 hb1 ?q1x7 ?q1x8 ?q1x9); (case q1x0 => rfl); (case q1x1 => rfl); (case q1x2 => rfl); (case q1x3 => omega); (case q1x4 => exact fun _ => rfl); (case q1x5 => rfl); (case q1x6 => rfl); (case q1x7 => exact hb1.size); (case q1x8 => omega); intro v2 w2 ho2 hb2 _ _)
    have hT2 := hT.below hb2
    obtain ⟨L, hL⟩ : ∃ L, L = I ++ l := ⟨_, rfl⟩
    have hlen2 : L.length ≤ 140737488353000 := by rw [hL, List.length_append]; omega
    rw [← hL] at ho2
    have hL' := Lib.hid hL
    obtain ⟨A2, c2, rfl, _, hr2⟩ := own_reads_of_le (d := (0 : UInt8)) ho2
    clear ho1 hr1 hb1 ho2 hL
    go_upto_region 6 with (go_at_call 17; refine (RefSum.sum_any A2 L.length c2 L w2 hT2 hr2 hlen2).mono ?_; rintro e w3 ⟨v3, rfl, ho3, hb3⟩)
    have hT3 := hT2.below hb3
    have hB3 := hb2.trans (hb3.mono hb2.size)
    obtain ⟨D, hD⟩ : ∃ D, D = Sha.sha L := ⟨_, rfl⟩
    have hDl : D.length = 32 := by rw [hD]; exact Sha.sha_length _
    rw [← hD] at ho3
    obtain ⟨A3, c3, rfl, _, hr3⟩ := own_reads_of_le (d := (0 : UInt8)) ho3
    have hD' := Lib.hid hD
    rw [hDl] at hr3 ⊢
    have hDl' := Lib.hid hDl
    clear ho3 hb3 hT2 hb2 hr2 hD hDl
    have hu := RefUnder.under_any s 92 w3 hT3 hs
    rw [tb92] at hu
    have hu1 := Lib.hid hu
    clear hu
    go_wp2_with fail
    refine hu1.out.mono ?_
    rintro e w4 ⟨v4, rfl, ho4, hb4⟩
    have hr4 := hr3.below hb4
    have hB4 := hB3.trans (hb4.mono hB3.size)
    obtain ⟨O, hO⟩ : ∃ O, O = turned (pad (sb s)) 92 := ⟨_, rfl⟩
    have hOl : O.length = 64 := by rw [hO]; exact turned_length _ _
    rw [← hO] at ho4
    have ho4' : w4.ownsRow w.heap.size 5 1 v4 O.length (encs eb O) := own_weaken ho4 hB3.size
    have hO' := Lib.hid hO
    have hOl' := Lib.hid hOl
    have hOle : O.length ≤ 64 := Nat.le_of_eq hOl
    clear hO hOl hu1 ho4 hb4 hr3 hT3
    go_upto_region 8 with (at_builtin; (with_reducible refine print_append_row_of (w0 := w) (o := ⟨some 23, _, _, _, _, _⟩) eb 0 w.heap.size ?q2x0 (.tmp 21) (.tmp 22) 22 5 (.int .u8 0) 1 ?q2x1 Tryd.underlying22 info5 ?q2x2 ?q2x3 ?q2x4 v4 O D A3 32 c3 ?q2x5 ?q2x6 ho4' hr4 hB4 ?q2x7 ?q2x8 ?q2x9); (case q2x0 => rfl); (case q2x1 => rfl); (case q2x2 => rfl); (case q2x3 => omega); (case q2x4 => exact fun _ => rfl); (case q2x5 => rfl); (case q2x6 => rfl); (case q2x7 => exact hB4.size); (case q2x8 => omega); intro v5 w5 ho5 hb5 _ _)
    have hT5 := hT.below hb5
    have hlen5 : (O ++ D).length = 96 := by rw [List.length_append, hOl'.out, hDl'.out]
    obtain ⟨A5, c5, rfl, _, hr5⟩ := own_reads_of_le (d := (0 : UInt8)) ho5
    rw [hlen5] at hr5 ⊢
    have hS := hb5.size
    have hfin : Sha.sha (O ++ D) = mac (sb s) l := by rw [mac, hO'.out, hD'.out, hL'.out, hI'.out]
    have hfin' := Lib.hid hfin
    clear ho5 hlen5 hfin hT
    go_wp2_with (go_at_call 17; refine (RefSum.sum_any A5 96 c5 (O ++ D) w5 hT5 hr5 (by omega)).mono ?_; rintro e w6 ⟨v6, rfl, ho6, hb6⟩)
    go_ret2
    rw [hfin'.out] at ho6
    exact .inl ⟨by omega, v6, rfl, own_weaken ho6 hS, hb5.trans (hb6.mono hS)⟩
  · go_wp2_with fail
    go_ret2
    exact .inr ⟨by omega, rfl, Below.refl _ _⟩
end Go.Proofs.YtcelojkecfiocaaDoor.RefMac
