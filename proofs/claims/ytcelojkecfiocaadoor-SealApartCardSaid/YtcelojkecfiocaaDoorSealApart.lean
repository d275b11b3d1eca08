/- SealApart: keys and tokens are macs of bytes that tell what they are for; a seal is the beginning of a mac. -/
import Derived.Test.YtcelojkecfiocaaDoorAwake4
import Derived.Test.YtcelojkecfiocaaDoorHold
import Derived.Lib.SliceRun
namespace Go.Proofs.YtcelojkecfiocaaDoor.SealApart
open Go.RowKit Go.Proofs.YtcelojkecfiocaaDoor.Bv Go.Proofs.YtcelojkecfiocaaDoor.Mem
open Go.Proofs.YtcelojkecfiocaaDoorW.PrintWords
open Go.Proofs.YtcelojkecfiocaaDoor.Changed (Tabs RTabs)
open Go.Proofs.YtcelojkecfiocaaDoor.Pad (sb sb_length str_reads)
open Go.Proofs.YtcelojkecfiocaaDoor.Mac (mac mac_length)
open Go.Proofs.YtcelojkecfiocaaDoor.Str
open Go.Proofs.YtcelojkecfiocaaDoor.SealP
open Go.Proofs.YtcelojkecfiocaaDoor.Hold (Done)
open Go.Proofs.YtcelojkecfiocaaDoor.Key (keyP tokP dev two tok)
open Go.Proofs.YtcelojkecfiocaaDoor.Token (sb_tok size_tok)
open Go.Proofs.YtcelojkecfiocaaDoor.HSum (reads_new)

theorem dev_cells (d : Int) (h0 : 0 ≤ d) (h6 : d ≤ 65535) : ((dev ++ two d).map eb).toArray = #[.int .u8 100, .int .u8 101, .int .u8 118, .int .u8 105, .int .u8 99, .int .u8 101, .int .u8 (d / 256), .int .u8 (d % 256)] := by
  have h := congrArg Array.toList (Key.two_cells d h0 h6)
  apply Array.ext'
  rw [List.map_append]
  simp only [dev, List.map_cons, List.map_nil] at h ⊢
  rw [show (two d).map eb = [.int .u8 (d / 256), .int .u8 (d % 256)] from h]
  rfl
theorem str_empty : (str []).toList = [] := str_list []
theorem size_str (l : List UInt8) : (str l).size = l.length := rfl

set_option maxRecDepth 100000 in
set_option maxHeartbeats 6400000 in
theorem apart_any (s t : ByteArray) (d : Int) (w : World) (hT : Tabs w) (hs : s.size ≤ 140737488351232) (ht : t.size ≤ 140737488351232) (hd1 : -9223372036854775808 ≤ d) (hd2 : d ≤ 9223372036854775807) :
    Calls Tryd.prog 12 #[.string s, .int .i64 d, .string t] w (Done w) := by
  have hsl := sb_length s
  have htl := sb_length t
  go_enter Tryd.func12, Tryd.ntmps12
  go_wp2_with fail
  refine (Awake4.awake_any w hT).mono ?_
  rintro e w1 ⟨rfl, hb1⟩
  have hT1 := hT.below hb1
  have hS1 := hb1.size
  obtain ⟨K, cK, hK⟩ : ∃ K cK, keyP (sb s) d = (K, cK) := ⟨_, _, rfl⟩
  obtain ⟨T, cT, hQ⟩ : ∃ T cT, tokP (sb s) (sb t) = (T, cT) := ⟨_, _, rfl⟩
  have hK' := Lib.hid hK
  have hQ' := Lib.hid hQ
  clear hK hQ
  go_wp2_with fail
  refine (Key.key_any s d w1 hT1 hs hd1 hd2).mono ?_
  intro e w2 h
  rw [hK'.out] at h
  obtain ⟨rfl, hb2⟩ := h
  have hT2 := hT1.below hb2
  have hB2 := hb1.trans (hb2.mono hS1)
  have hS2 := hB2.size
  clear hb1 hb2 hS1 hT1
  go_wp2_with fail
  refine (Token.token_any s t w2 hT2 hs ht).mono ?_
  intro e w3 h
  rw [hQ'.out] at h
  obtain ⟨rfl, hb3⟩ := h
  have hB3 := hB2.trans (hb3.mono hS2)
  have hT3 := hT.below hB3
  have hS3 := hB3.size
  clear hb3 hS2 hB2 hT2
  by_cases hk : s.size ≤ 200
  · by_cases hd : 0 ≤ d ∧ d ≤ 65535
    · obtain ⟨h0, h6⟩ := hd
      have hKe : (K, cK) = (mac (sb s) (dev ++ two d), 0) := by rw [← hK'.out, keyP, if_pos (by omega), if_pos ⟨h0, h6⟩]
      obtain rfl : cK = 0 := congrArg Prod.snd hKe
      have hKm0 : K = mac (sb s) (dev ++ two d) := congrArg Prod.fst hKe
      have hKm := Lib.hid hKm0
      clear hKm0
      clear hKe
      have hn3 := reads_new w3 (dev ++ two d) (by simp [dev, two])
      have hb3 : Below w3.heap.size w3 (w3.alloc (Obj.cells ((dev ++ two d).map eb).toArray 5)) := (Below.refl _ _).alloc (Nat.le_refl _) _
      rw [dev_cells d h0 h6] at hn3 hb3
      have hm := Mac.macx_any s (some ⟨w3.heap.size, 0, none⟩) 8 8 (dev ++ two d) _ (hT3.below hb3) hs hn3 (by omega)
      have hm' := Lib.hid hm
      have hB4 := hB3.trans (hb3.mono hS3)
      have hS4 := hB4.size
      have hB4' := Lib.hid hB4
      clear hm hn3 hb3 hB4 hB3 hT3
      go_wp2_with fail
      refine hm'.out.mono ?_
      rintro e w5 (⟨_, v, rfl, ho, hb⟩ | ⟨hk5, rfl, hb⟩)
      rotate_left
      · omega
      have hB5 := hB4'.out.trans (hb.mono hS4)
      have hT5 := hT.below hB5
      have hS5 := hB5.size
      rw [← hKm.out] at ho
      obtain ⟨A5, c5, rfl, _, hr5⟩ := own_reads_of_le (d := (0 : UInt8)) ho
      have s5 := string_of (c := c5) hr5
      clear hb ho hr5 hm' hB4' hS4 hS3
      by_cases ht6 : 1 ≤ t.size ∧ t.size ≤ 64
      · have hTe : (T, cT) = ((mac (sb s) (tok ++ sb t)).take 8, 0) := by rw [← hQ'.out, tokP, if_pos (by omega), if_pos (by omega)]
        obtain rfl : cT = 0 := congrArg Prod.snd hTe
        have hTm0 : T = (mac (sb s) (tok ++ sb t)).take 8 := congrArg Prod.fst hTe
        have hTm := Lib.hid hTm0
        clear hTm0
        have hTs : (str T).size = 8 := by rw [size_str, hTm.out, List.length_take, mac_length]; rfl
        obtain ⟨ht1, ht64⟩ := ht6
        clear hTe
        have kb := fun (s : ByteArray) (W : World) => print_bytes (P := Tryd.prog) 9 22 5 Tryd.underlying9 Tryd.underlying22 (by kernel_rfl) s W
        go_wp2_with fail
        have hr6 := str_reads w5 ((⟨#[116, 111, 107, 101, 110]⟩ : ByteArray) ++ t) (by rw [size_tok]; omega)
        have hb6 : Below w5.heap.size w5 (Lib.bytesWorld w5 5 ((⟨#[116, 111, 107, 101, 110]⟩ : ByteArray) ++ t)) := bytes_below (Below.refl _ _) (Nat.le_refl _) 5 _
        rw [sb_tok, size_tok] at hr6
        have hB6 := hB5.trans (hb6.mono hS5)
        have hT6 := hT5.below hb6
        have hS6 := hB6.size
        generalize Lib.bytesWorld w5 5 ((⟨#[116, 111, 107, 101, 110]⟩ : ByteArray) ++ t) = w6 at hr6 hB6 hT6 hS6 ⊢
        generalize grownCap w5 (5 + t.size) 0 5 = c6
        have hsp : sealP (sb s) (tok ++ sb t) = (sealed (sb s) (tok ++ sb t), 0) := by rw [sealP, if_pos (by omega)]
        refine (SealP.seal_any s (some ⟨w5.heap.size, 0, none⟩) (5 + t.size) c6 (tok ++ sb t) w6 hT6 hs hr6 (by omega)).mono ?_
        intro e w7 h
        rw [hsp] at h
        obtain ⟨v7, rfl, ho7, hb7⟩ := h
        obtain ⟨E, hE⟩ : ∃ E, E = sealed (sb s) (tok ++ sb t) := ⟨_, rfl⟩
        have hEl : E.length = 5 + t.size + 16 := by rw [hE, sealed_length, List.length_append, htl]; rfl
        have ho7' : w7.ownsRow w6.heap.size 5 1 v7 E.length (encs eb E) := by rw [hE]; exact ho7
        obtain ⟨A7, c7, rfl, hc7, hr7⟩ := own_reads_of_le (d := (0 : UInt8)) ho7'
        obtain ⟨A8, hp1, hp2⟩ := part_mid A7 c7 E (5 + t.size) 8 (5 + (t.size : Int)) (5 + (t.size : Int) + 8) (by omega) (by omega) (by omega) hc7
        have hET : (E.drop (5 + t.size)).take 8 = T := by
          have e5 : 5 + t.size = (tok ++ sb t).length := by rw [List.length_append, htl]; rfl
          rw [hE, hTm.out, e5]
          unfold sealed
          rw [List.drop_left, List.take_take]
          rfl
        obtain ⟨a7, rfl⟩ := reads_some hr7 (by omega)
        have hq : ∀ W : World, (binOp .eql 22 (.slice (some a7) E.length c7) (.slice none 0 0)).run Tryd.prog W = .ok (.bool false) W := fun W => Lib.run_eql_slice_nil W 22 5 (some a7) E.length c7 0 0 Tryd.underlying22
        have hr8 := hp2 w7 hr7
        rw [hET] at hr8
        have s8 := string_of (c := c7 - (5 + t.size)) hr8
        have hB7 := Lib.hid (hB6.trans (hb7.mono hS6))
        clear hp2 hr8 hr7 ho7 ho7' hET hE hEl hb7 hB6 hT6 hr6 hb6 hsp kb hT5 hB5
        rw [show ((sealed (sb s) (tok ++ sb t), (0 : Int)).2) = 0 from rfl]
        go_wp2_with fail
        go_ret
        exact ⟨rfl, hB7.out⟩
      · have hTe : (T, cT) = ([], 1) := by rw [← hQ'.out, tokP, if_pos (by omega), if_neg (by omega)]
        obtain rfl : cT = 1 := congrArg Prod.snd hTe
        obtain rfl : T = [] := congrArg Prod.fst hTe
        have hse2 := str_empty
        have hB' := Lib.hid hB5
        clear hTe ht6 hT5 hB5
        go_wp2_with fail
        go_ret
        exact ⟨rfl, hB'.out⟩
    · have hKe : (K, cK) = ([], 1) := by rw [← hK'.out, keyP, if_pos (by omega), if_neg hd]
      obtain rfl : cK = 1 := congrArg Prod.snd hKe
      obtain rfl : K = [] := congrArg Prod.fst hKe
      have hse := str_empty
      clear hKe hd
      by_cases ht6 : 1 ≤ t.size ∧ t.size ≤ 64
      · have hTe : (T, cT) = ((mac (sb s) (tok ++ sb t)).take 8, 0) := by rw [← hQ'.out, tokP, if_pos (by omega), if_pos (by omega)]
        obtain rfl : cT = 0 := congrArg Prod.snd hTe
        have hTm0 : T = (mac (sb s) (tok ++ sb t)).take 8 := congrArg Prod.fst hTe
        have hTm := Lib.hid hTm0
        clear hTm0
        have hTs : (str T).size = 8 := by rw [size_str, hTm.out, List.length_take, mac_length]; rfl
        obtain ⟨ht1, ht64⟩ := ht6
        clear hTe
        have kb := fun (s : ByteArray) (W : World) => print_bytes (P := Tryd.prog) 9 22 5 Tryd.underlying9 Tryd.underlying22 (by kernel_rfl) s W
        go_wp2_with fail
        have hr6 := str_reads w3 ((⟨#[116, 111, 107, 101, 110]⟩ : ByteArray) ++ t) (by rw [size_tok]; omega)
        have hb6 : Below w3.heap.size w3 (Lib.bytesWorld w3 5 ((⟨#[116, 111, 107, 101, 110]⟩ : ByteArray) ++ t)) := bytes_below (Below.refl _ _) (Nat.le_refl _) 5 _
        rw [sb_tok, size_tok] at hr6
        have hB6 := hB3.trans (hb6.mono hS3)
        have hT6 := hT3.below hb6
        have hS6 := hB6.size
        generalize Lib.bytesWorld w3 5 ((⟨#[116, 111, 107, 101, 110]⟩ : ByteArray) ++ t) = w6 at hr6 hB6 hT6 hS6 ⊢
        generalize grownCap w3 (5 + t.size) 0 5 = c6
        have hsp : sealP (sb s) (tok ++ sb t) = (sealed (sb s) (tok ++ sb t), 0) := by rw [sealP, if_pos (by omega)]
        refine (SealP.seal_any s (some ⟨w3.heap.size, 0, none⟩) (5 + t.size) c6 (tok ++ sb t) w6 hT6 hs hr6 (by omega)).mono ?_
        intro e w7 h
        rw [hsp] at h
        obtain ⟨v7, rfl, ho7, hb7⟩ := h
        obtain ⟨E, hE⟩ : ∃ E, E = sealed (sb s) (tok ++ sb t) := ⟨_, rfl⟩
        have hEl : E.length = 5 + t.size + 16 := by rw [hE, sealed_length, List.length_append, htl]; rfl
        have ho7' : w7.ownsRow w6.heap.size 5 1 v7 E.length (encs eb E) := by rw [hE]; exact ho7
        obtain ⟨A7, c7, rfl, hc7, hr7⟩ := own_reads_of_le (d := (0 : UInt8)) ho7'
        obtain ⟨A8, hp1, hp2⟩ := part_mid A7 c7 E (5 + t.size) 8 (5 + (t.size : Int)) (5 + (t.size : Int) + 8) (by omega) (by omega) (by omega) hc7
        have hET : (E.drop (5 + t.size)).take 8 = T := by
          have e5 : 5 + t.size = (tok ++ sb t).length := by rw [List.length_append, htl]; rfl
          rw [hE, hTm.out, e5]
          unfold sealed
          rw [List.drop_left, List.take_take]
          rfl
        obtain ⟨a7, rfl⟩ := reads_some hr7 (by omega)
        have hq : ∀ W : World, (binOp .eql 22 (.slice (some a7) E.length c7) (.slice none 0 0)).run Tryd.prog W = .ok (.bool false) W := fun W => Lib.run_eql_slice_nil W 22 5 (some a7) E.length c7 0 0 Tryd.underlying22
        have hr8 := hp2 w7 hr7
        rw [hET] at hr8
        have s8 := string_of (c := c7 - (5 + t.size)) hr8
        have hB7 := Lib.hid (hB6.trans (hb7.mono hS6))
        clear hp2 hr8 hr7 ho7 ho7' hET hE hEl hb7 hB6 hT6 hr6 hb6 hsp kb hT3 hB3
        rw [show ((sealed (sb s) (tok ++ sb t), (0 : Int)).2) = 0 from rfl]
        go_wp2_with fail
        go_ret
        exact ⟨rfl, hB7.out⟩
      · have hTe : (T, cT) = ([], 1) := by rw [← hQ'.out, tokP, if_pos (by omega), if_neg (by omega)]
        obtain rfl : cT = 1 := congrArg Prod.snd hTe
        obtain rfl : T = [] := congrArg Prod.fst hTe
        have hse2 := str_empty
        have hB' := Lib.hid hB3
        clear hTe ht6 hT3 hB3
        go_wp2_with fail
        go_ret
        exact ⟨rfl, hB'.out⟩
  · have hKe : (K, cK) = ([], 2) := by rw [← hK'.out, keyP, if_neg (by omega)]
    obtain rfl : cK = 2 := congrArg Prod.snd hKe
    obtain rfl : K = [] := congrArg Prod.fst hKe
    have hTe : (T, cT) = ([], 2) := by rw [← hQ'.out, tokP, if_neg (by omega)]
    obtain rfl : cT = 2 := congrArg Prod.snd hTe
    obtain rfl : T = [] := congrArg Prod.fst hTe
    have hse := str_empty
    have hB3' := Lib.hid hB3
    clear hKe hTe hB3 hT3
    go_wp2_with fail
    go_ret
    exact ⟨rfl, hB3'.out⟩
end Go.Proofs.YtcelojkecfiocaaDoor.SealApart
