/- The reference's Key and Token. Conditions: lengths below 2^47. -/
import Derived.Test.YtcelojkecfiocaaDoorToken
namespace Go.Proofs.YtcelojkecfiocaaDoor.RefKey
open Go.RowKit Go.Proofs.YtcelojkecfiocaaDoor.Bv Go.Proofs.YtcelojkecfiocaaDoor.Mem
open Go.Proofs.YtcelojkecfiocaaDoorW.PrintWords
open Go.Proofs.YtcelojkecfiocaaDoor.Changed (Tabs RTabs)
open Go.Proofs.YtcelojkecfiocaaDoor.Pad (sb sb_length str_reads)
open Go.Proofs.YtcelojkecfiocaaDoor.Mac (mac mac_length MacPost)
open Go.Proofs.YtcelojkecfiocaaDoor.RefFilled (info5)
open Go.Proofs.YtcelojkecfiocaaDoor.Str
open Go.Proofs.YtcelojkecfiocaaDoor.SealP
open Go.Proofs.YtcelojkecfiocaaDoor.Key (Say tok tokP keyP dev two dev_reads devWorld)
open Go.Proofs.YtcelojkecfiocaaDoor.Token (sb_tok size_tok)

set_option maxRecDepth 100000 in
set_option maxHeartbeats 1600000 in
theorem token_any (s t : ByteArray) (w : World) (hT : RTabs w) (hs : s.size ≤ 140737488351232) (ht : t.size ≤ 140737488351232) :
    Calls Tryd.prog 35 #[.string s, .string t] w (Say (tokP (sb s) (sb t)).1 (tokP (sb s) (sb t)).2 w) := by
  have hsl := sb_length s
  have htl := sb_length t
  go_enter Tryd.func35, Tryd.ntmps35
  by_cases h : s.size ≤ 200
  · by_cases h0 : t.size < 1
    · have hp' := Lib.hid (show tokP (sb s) (sb t) = ([], 1) by rw [tokP, if_pos (by omega), if_neg (by omega)])
      go_wp2_with fail
      go_ret2
      unfold Say
      rw [hp'.out]
      exact ⟨rfl, Below.refl _ _⟩
    · by_cases h6 : 64 < t.size
      · have hp' := Lib.hid (show tokP (sb s) (sb t) = ([], 1) by rw [tokP, if_pos (by omega), if_neg (by omega)])
        go_wp2_with fail
        go_ret2
        unfold Say
        rw [hp'.out]
        exact ⟨rfl, Below.refl _ _⟩
      · have hp' := Lib.hid (show tokP (sb s) (sb t) = ((mac (sb s) (tok ++ sb t)).take 8, 0) by rw [tokP, if_pos (by omega), if_pos (by omega)])
        have kb := fun (s : ByteArray) (W : World) => print_bytes (P := Tryd.prog) 9 22 5 Tryd.underlying9 Tryd.underlying22 (by kernel_rfl) s W
        go_wp2_with fail
        have hr1 := str_reads w ((⟨#[116, 111, 107, 101, 110]⟩ : ByteArray) ++ t) (by rw [size_tok]; omega)
        have hb1 : Below w.heap.size w (Lib.bytesWorld w 5 ((⟨#[116, 111, 107, 101, 110]⟩ : ByteArray) ++ t)) := bytes_below (Below.refl _ _) (Nat.le_refl _) 5 _
        rw [sb_tok, size_tok] at hr1
        have hT1 := hT.below hb1
        have hS1 := hb1.size
        generalize Lib.bytesWorld w 5 ((⟨#[116, 111, 107, 101, 110]⟩ : ByteArray) ++ t) = w1 at hr1 hb1 hT1 hS1 ⊢
        generalize grownCap w (5 + t.size) 0 5 = c1
        refine (RefMac.mac_any s (some ⟨w.heap.size, 0, none⟩) (5 + t.size) c1 (tok ++ sb t) w1 hT1 hs hr1 (by omega)).mono ?_
        rintro e w2 (⟨hk, v2, rfl, ho2, hb2⟩ | ⟨hk, rfl, hb2⟩)
        rotate_left
        · omega
        obtain ⟨M, hM⟩ : ∃ M, M = mac (sb s) (tok ++ sb t) := ⟨_, rfl⟩
        rw [← hM] at ho2
        have hMl : M.length = 32 := by rw [hM]; exact mac_length _ _
        obtain ⟨A2, c2, rfl, hc2, hr2⟩ := own_reads_of_le (d := (0 : UInt8)) ho2
        obtain ⟨hq1, hq2⟩ := part_take A2 c2 M 8 8 rfl (by omega) hc2
        have sx := string_of (c := c2) (hq2 w2 hr2)
        have hM' := Lib.hid hM
        have hb2' := Lib.hid (hb1.trans (hb2.mono hS1))
        clear hM ho2 hr2 hq2 hr1 hT1 hT hb1 hb2 kb hMl
        go_wp2_with fail
        go_ret2
        unfold Say
        rw [hp'.out, ← hM'.out]
        exact ⟨rfl, hb2'.out⟩
  · have hp' := Lib.hid (show tokP (sb s) (sb t) = ([], 2) by rw [tokP, if_neg (by omega)])
    go_wp2_with fail
    go_ret2
    unfold Say
    rw [hp'.out]
    exact ⟨rfl, Below.refl _ _⟩

set_option maxRecDepth 100000 in
set_option maxHeartbeats 1600000 in
theorem key_any (s : ByteArray) (d : Int) (w : World) (hT : RTabs w) (hs : s.size ≤ 140737488351232) (hd1 : -9223372036854775808 ≤ d) (hd2 : d ≤ 9223372036854775807) :
    Calls Tryd.prog 34 #[.string s, .int .i64 d] w (Say (keyP (sb s) d).1 (keyP (sb s) d).2 w) := by
  have hsl := sb_length s
  go_enter Tryd.func34, Tryd.ntmps34
  by_cases h : s.size ≤ 200
  · by_cases h0 : d < 0
    · have hp' := Lib.hid (show keyP (sb s) d = ([], 1) by rw [keyP, if_pos (by omega), if_neg (by omega)])
      go_wp2_with fail
      go_ret2
      unfold Say
      rw [hp'.out]
      exact ⟨rfl, Below.refl _ _⟩
    · by_cases h6 : 65535 < d
      · have hp' := Lib.hid (show keyP (sb s) d = ([], 1) by rw [keyP, if_pos (by omega), if_neg (by omega)])
        go_wp2_with fail
        go_ret2
        unfold Say
        rw [hp'.out]
        exact ⟨rfl, Below.refl _ _⟩
      · have hp' := Lib.hid (show keyP (sb s) d = (mac (sb s) (dev ++ two d), 0) by rw [keyP, if_pos (by omega), if_pos (by omega)])
        obtain ⟨hx1, hx2, hxb⟩ := dev_reads w d (by omega) (by omega)
        have hTx := hT.below hxb
        have hSx := hxb.size
        have hx1' := Lib.hid hx1
        have hx2' := Lib.hid hx2
        have hxb' := Lib.hid hxb
        clear hx1 hx2 hxb hT
        have ew : (w.alloc (Obj.cells #[Value.int .u8 100, .int .u8 101, .int .u8 118, .int .u8 105, .int .u8 99, .int .u8 101] 5 (6, 7))).alloc (Obj.cells #[Value.int .u8 (d / 256), Value.int .u8 (d % 256)] 5) = devWorld w d := rfl
        go_upto_region 7 with (at_builtin; (with_reducible refine Key.append_grow (o := ⟨some 28, _, _, _, _, _⟩) ?q1x0 (.tmp 20) (.tmp 27) 22 5 (.int .u8 0) 1 ?q1x1 Tryd.underlying22 info5 ?q1x2 ?q1x3 eb 0 ⟨w.heap.size, 0, none⟩ ⟨w.heap.size + 1, 0, none⟩ 6 6 2 2 dev (two d) ?q1x5 ?q1x6 hx1'.out hx2'.out ?q1x7 ?q1x8 ?q1x9); (case q1x0 => rfl); (case q1x1 => rfl); (case q1x2 => rfl); (case q1x3 => omega); (case q1x5 => rfl); (case q1x6 => rfl); (case q1x7 => omega); (case q1x8 => omega); intro v1 w1 hown hb1; have hB1 := hxb'.out.trans (hb1.mono hSx); have hT1 := hTx.below hb1; obtain ⟨A1, c1, rfl, _, hr1⟩ := own_reads_of_le (d := (0 : UInt8)) hown; have hS1 := hB1.size; clear hown hb1 hTx)
        go_wp2_with fail
        refine (RefMac.mac_any s A1 8 c1 (dev ++ two d) w1 hT1 hs hr1 (by omega)).mono ?_
        rintro e w2 (⟨hk, v2, rfl, ho2, hb2⟩ | ⟨hk, rfl, hb2⟩)
        rotate_left
        · omega
        obtain ⟨M, hM⟩ : ∃ M, M = mac (sb s) (dev ++ two d) := ⟨_, rfl⟩
        rw [← hM] at ho2
        obtain ⟨A2, c2, rfl, hc2, hr2⟩ := own_reads_of_le (d := (0 : UInt8)) ho2
        have sx := string_of (c := c2) hr2
        have hM' := Lib.hid hM
        have hB' := Lib.hid (hB1.trans (hb2.mono hS1))
        clear hM ho2 hr2 hB1 hb2 hT1 hr1 ew
        go_wp2_with fail
        go_ret2
        unfold Say
        rw [hp'.out, ← hM'.out]
        exact ⟨rfl, hB'.out⟩
  · have hp' := Lib.hid (show keyP (sb s) d = ([], 2) by rw [keyP, if_neg (by omega)])
    go_wp2_with fail
    go_ret2
    unfold Say
    rw [hp'.out]
    exact ⟨rfl, Below.refl _ _⟩
end Go.Proofs.YtcelojkecfiocaaDoor.RefKey
