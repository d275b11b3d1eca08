/- SealKeys: devices' secrets and cards' tokens are the reference's. -/
import Derived.Test.YtcelojkecfiocaaDoorAwake4
namespace Go.Proofs.YtcelojkecfiocaaDoor.SealKeys
open Go.RowKit Go.Proofs.YtcelojkecfiocaaDoor.Bv Go.Proofs.YtcelojkecfiocaaDoor.Mem
open Go.Proofs.YtcelojkecfiocaaDoorW.PrintWords
open Go.Proofs.YtcelojkecfiocaaDoor.Changed (Tabs RTabs)
open Go.Proofs.YtcelojkecfiocaaDoor.Pad (sb sb_length)
open Go.Proofs.YtcelojkecfiocaaDoor.Key (Say keyP tokP)
open Go.Proofs.YtcelojkecfiocaaDoor.Str
open Go.Proofs.YtcelojkecfiocaaDoor.SealP
open Go.Proofs.YtcelojkecfiocaaDoor.Awake4 (Post)

set_option maxRecDepth 100000 in
set_option maxHeartbeats 1600000 in
theorem keys_any (s t : ByteArray) (d : Int) (w : World) (hT : Tabs w) (hR : RTabs w) (hs : s.size ≤ 140737488351232) (ht : t.size ≤ 140737488351232) (hd1 : -9223372036854775808 ≤ d) (hd2 : d ≤ 9223372036854775807) :
    Calls Tryd.prog 11 #[.string s, .int .i64 d, .string t] w (Post w) := by
  go_enter Tryd.func11, Tryd.ntmps11
  go_wp2_with fail
  refine (Awake4.awake_any w hT).mono ?_
  rintro e w1 ⟨rfl, hb1⟩
  have hT1 := hT.below hb1
  have hS1 := hb1.size
  go_wp2_with fail
  refine (Key.key_any s d w1 hT1 hs hd1 hd2).mono ?_
  rintro e w2 ⟨rfl, hb2⟩
  have hT2 := hT1.below hb2
  have hB2 := hb1.trans (hb2.mono hS1)
  have hS2 := hB2.size
  clear hb1 hb2 hS1
  go_wp2_with fail
  refine (Token.token_any s t w2 hT2 hs ht).mono ?_
  rintro e w3 ⟨rfl, hb3⟩
  have hB3 := hB2.trans (hb3.mono hS2)
  have hR3 := hR.below hB3
  have hS3 := hB3.size
  clear hb3 hS2 hB2
  go_wp2_with fail
  refine (RefKey.key_any s d w3 hR3 hs hd1 hd2).mono ?_
  rintro e w4 ⟨rfl, hb4⟩
  have hB4 := hB3.trans (hb4.mono hS3)
  have hR4 := hR.below hB4
  have hS4 := hB4.size
  clear hb4 hS3 hB3
  go_wp2_with fail
  refine (RefKey.token_any s t w4 hR4 hs ht).mono ?_
  rintro e w5 ⟨rfl, hb5⟩
  have hB5 := Lib.hid (hB4.trans (hb5.mono hS4))
  clear hb5 hS4 hB4
  go_wp2_with fail
  go_ret
  exact ⟨rfl, hB5.out⟩
end Go.Proofs.YtcelojkecfiocaaDoor.SealKeys
