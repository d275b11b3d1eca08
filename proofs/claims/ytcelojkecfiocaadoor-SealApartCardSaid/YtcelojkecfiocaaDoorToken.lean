/- seal.Token. Conditions: lengths below 2^47. -/
import Derived.Test.YtcelojkecfiocaaDoorKey
namespace Go.Proofs.YtcelojkecfiocaaDoor.Token
open Go.RowKit Go.Proofs.YtcelojkecfiocaaDoor.Bv Go.Proofs.YtcelojkecfiocaaDoor.Mem
open Go.Proofs.YtcelojkecfiocaaDoorW.PrintWords
open Go.Proofs.YtcelojkecfiocaaDoor.Changed (Tabs RTabs)
open Go.Proofs.YtcelojkecfiocaaDoor.Pad (sb sb_length str_reads)
open Go.Proofs.YtcelojkecfiocaaDoor.Mac (mac mac_length MacPost)
open Go.Proofs.YtcelojkecfiocaaDoor.RefFilled (info5)
open Go.Proofs.YtcelojkecfiocaaDoor.Str
open Go.Proofs.YtcelojkecfiocaaDoor.SealP
open Go.Proofs.YtcelojkecfiocaaDoor.Key (Say tok tokP)

theorem sb_tok (t : ByteArray) : sb ((⟨#[116, 111, 107, 101, 110]⟩ : ByteArray) ++ t) = tok ++ sb t := by
  unfold sb
  rw [ByteArray.data_append]
  simp [tok]
theorem size_tok (t : ByteArray) : ((⟨#[116, 111, 107, 101, 110]⟩ : ByteArray) ++ t).size = 5 + t.size := by
  rw [ByteArray.size_append]; rfl

set_option maxRecDepth 100000 in
set_option maxHeartbeats 1600000 in
theorem token_any (s t : ByteArray) (w : World) (hT : Tabs w) (hs : s.size ≤ 140737488351232) (ht : t.size ≤ 140737488351232) :
    Calls Tryd.prog 33 #[.string s, .string t] w (Say (tokP (sb s) (sb t)).1 (tokP (sb s) (sb t)).2 w) := by
  have hsl := sb_length s
  have htl := sb_length t
  go_enter Tryd.func33, Tryd.ntmps33
  go_wp2_with fail
  refine (Mac.may_any s w (by omega)).mono ?_
  rintro e w1 ⟨rfl, rfl⟩
  by_cases h : s.size ≤ 200
  · rw [decide_eq_true h]
    by_cases h0 : t.size < 1
    · have hp' := Lib.hid (show tokP (sb s) (sb t) = ([], 1) by rw [tokP, if_pos (by omega), if_neg (by omega)])
      go_wp2_with fail
      go_ret2
      unfold Say
      rw [hp'.out]
      exact ⟨rfl, Below.refl _ _⟩
    · by_cases h6 : 64 < t.size
      · have hp' := Lib.hid (show tokP (sb s) (sb t) = ([], 1) by rw [tokP, if_pos (by omega), if_neg (by omega)])
        go_wp2_with fail
        go_ret2
        unfold Say
        rw [hp'.out]
        exact ⟨rfl, Below.refl _ _⟩
      · have hp' := Lib.hid (show tokP (sb s) (sb t) = ((mac (sb s) (tok ++ sb t)).take 8, 0) by rw [tokP, if_pos (by omega), if_pos (by omega)])
        have kb := fun (s : ByteArray) (W : World) => print_bytes (P := Tryd.prog) 9 22 5 Tryd.underlying9 Tryd.underlying22 (by kernel_rfl) s W
        go_wp2_with fail
        have hr1 := str_reads w ((⟨#[116, 111, 107, 101, 110]⟩ : ByteArray) ++ t) (by rw [size_tok]; omega)
        have hb1 : Below w.heap.size w (Lib.bytesWorld w 5 ((⟨#[116, 111, 107, 101, 110]⟩ : ByteArray) ++ t)) := bytes_below (Below.refl _ _) (Nat.le_refl _) 5 _
        rw [sb_tok, size_tok] at hr1
        have hT1 := hT.below hb1
        have hS1 := hb1.size
        generalize Lib.bytesWorld w 5 ((⟨#[116, 111, 107, 101, 110]⟩ : ByteArray) ++ t) = w1 at hr1 hb1 hT1 hS1 ⊢
        generalize grownCap w (5 + t.size) 0 5 = c1
        refine (Mac.mac_any s (some ⟨w.heap.size, 0, none⟩) (5 + t.size) c1 (tok ++ sb t) w1 hT1 hs hr1 (by omega)).mono ?_
        rintro e w2 ⟨v2, rfl, ho2, hb2⟩
        obtain ⟨M, hM⟩ : ∃ M, M = mac (sb s) (tok ++ sb t) := ⟨_, rfl⟩
        rw [← hM] at ho2
        have hMl : M.length = 32 := by rw [hM]; exact mac_length _ _
        obtain ⟨A2, c2, rfl, hc2, hr2⟩ := own_reads_of_le (d := (0 : UInt8)) ho2
        obtain ⟨hq1, hq2⟩ := part_take A2 c2 M 8 8 rfl (by omega) hc2
        have sx := string_of (c := c2) (hq2 w2 hr2)
        have hM' := Lib.hid hM
        have hb2' := Lib.hid (hb1.trans (hb2.mono hS1))
        clear hM ho2 hr2 hq2 hr1 hT1 hT hb1 hb2 kb hMl
        go_wp2_with fail
        go_ret2
        unfold Say
        rw [hp'.out, ← hM'.out]
        exact ⟨rfl, hb2'.out⟩
  · have hp' := Lib.hid (show tokP (sb s) (sb t) = ([], 2) by rw [tokP, if_neg (by omega)])
    rw [decide_eq_false h]
    go_wp2_with fail
    go_ret2
    unfold Say
    rw [hp'.out]
    exact ⟨rfl, Below.refl _ _⟩
end Go.Proofs.YtcelojkecfiocaaDoor.Token
