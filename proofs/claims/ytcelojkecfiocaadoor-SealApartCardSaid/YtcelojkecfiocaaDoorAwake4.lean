/- The document's examples, asked ahead of each statement on seals. -/
import Derived.Test.YtcelojkecfiocaaDoorRefKey
namespace Go.Proofs.YtcelojkecfiocaaDoor.Awake4
open Go.RowKit Go.Proofs.YtcelojkecfiocaaDoor.Bv Go.Proofs.YtcelojkecfiocaaDoor.Mem
open Go.Proofs.YtcelojkecfiocaaDoorW.PrintWords
open Go.Proofs.YtcelojkecfiocaaDoor.Changed (Tabs RTabs)
open Go.Proofs.YtcelojkecfiocaaDoor.Pad (sb sb_length)
open Go.Proofs.YtcelojkecfiocaaDoor.Mac (mac mac_length MacPost)
open Go.Proofs.YtcelojkecfiocaaDoor.RefFilled (info5)
open Go.Proofs.YtcelojkecfiocaaDoor.Str
open Go.Proofs.YtcelojkecfiocaaDoor.SealP
open Go.Proofs.YtcelojkecfiocaaDoor.Key (Say keyP)

def kkey : List UInt8 := [107, 101, 121]
def sk : ByteArray := ⟨#[107, 101, 121]⟩
theorem sb_sk : sb sk = kkey := rfl
def abc : List UInt8 := [97, 98, 99]
def fox : List UInt8 := [84, 104, 101, 32, 113, 117, 105, 99, 107, 32, 98, 114, 111, 119, 110, 32, 102, 111, 120, 32, 106, 117, 109, 112, 115, 32, 111, 118, 101, 114, 32, 116, 104, 101, 32, 108, 97, 122, 121, 32, 100, 111, 103]
theorem mac_fox : (mac kkey fox).length = 32 ∧ Sha.b8 (mac kkey fox) 0 = 247 ∧ Sha.b8 (mac kkey fox) 1 = 188 ∧ Sha.b8 (mac kkey fox) 31 = 216 := by decide +kernel
theorem seal_abc : sealP kkey abc = (sealed kkey abc, 0) := rfl
theorem seal_len : (sealed kkey abc).length = 19 := sealed_length _ _
theorem open_seal (k l : List UInt8) (hk : k.length ≤ 200) : openP k (sealed k l) = (l, 0) := by
  unfold openP
  rw [if_pos hk, if_pos (by rw [sealed_length]; omega)]
  have e : (sealed k l).take ((sealed k l).length - 16) = l := by
    rw [sealed_length, Nat.add_sub_cancel]
    unfold sealed
    exact List.take_left
  rw [e, if_pos rfl]
theorem open_abc : openP kkey (sealed kkey abc) = (abc, 0) := open_seal _ _ (by decide)
theorem open_nil : openP kkey [] = ([], 40) := rfl
theorem key_neg : keyP kkey (-1) = ([], 1) := rfl
def Post (w : World) (e : Ending) (w' : World) : Prop := e = .returned (.bool true) ∧ Below w.heap.size w w'
theorem reads_nil (w : World) : ReadsOf eb 0 w none 0 [] := ⟨rfl, Nat.zero_le _, fun h => absurd h (by decide)⟩

set_option maxRecDepth 100000 in
set_option maxHeartbeats 2000000 in
theorem awake_any (w : World) (hT : Tabs w) : Calls Tryd.prog 24 #[] w (Post w) := by
  go_enter Tryd.func24, Tryd.ntmps24
  have hnew := reads_mark w fox (43, 44) (by decide)
  have hb1 : Below w.heap.size w (w.alloc (.cells (fox.map eb).toArray 5 (43, 44))) := (Below.refl _ _).alloc (Nat.le_refl _) _
  have hT1 := hT.below hb1
  have hm := Mac.macx_any sk (some ⟨w.heap.size, 0, none⟩) 43 43 fox _ hT1 (by decide) hnew (by omega)
  have hm' := Lib.hid hm
  have hnew' := Lib.hid hnew
  have hb1' := Lib.hid hb1
  clear hm hnew hb1
  go_wp2_with fail
  refine hm'.out.mono ?_
  rintro e w1 (⟨hk, v, rfl, ho, hb⟩ | ⟨hk, rfl, hb⟩)
  rotate_left
  · exact absurd hk (by decide)
  have hT2 := hT1.below hb
  have hB2 := hb1'.out.trans (hb.mono hb1'.out.size)
  rw [sb_sk] at ho
  obtain ⟨fl, f0, f1, f31⟩ := mac_fox
  obtain ⟨M, hM⟩ : ∃ M, M = mac kkey fox := ⟨_, rfl⟩
  rw [← hM] at ho fl f0 f1 f31
  obtain ⟨A1, c1, rfl, _, hr1⟩ := own_reads_of_le (d := (0 : UInt8)) ho
  rw [fl] at hr1 ⊢
  clear ho hb hM fl hT1 hT hb1' hm' hnew' hk
  have hnew := reads_mark w1 abc (3, 4) (by decide)
  have hbn : Below w1.heap.size w1 (w1.alloc (.cells (abc.map eb).toArray 5 (3, 4))) := (Below.refl _ _).alloc (Nat.le_refl _) _
  have hT3 := hT2.below hbn
  have hr3 := hr1.below hbn
  have hB3 := hB2.trans (hbn.mono hB2.size)
  have hs := SealP.seal_any sk (some ⟨w1.heap.size, 0, none⟩) 3 3 abc _ hT3 (by decide) hnew (by omega)
  rw [sb_sk, seal_abc] at hs
  have hs' := Lib.hid hs
  clear hs hnew hbn hT2 hr1 hB2
  go_wp2_with fail
  refine hs'.out.mono ?_
  rintro e w4 ⟨v, rfl, ho, hb4⟩
  have hT4 := hT3.below hb4
  have hr4 := hr3.below hb4
  have hB4 := hB3.trans (hb4.mono hB3.size)
  have hS4 := hB4.size
  obtain ⟨S, hS⟩ : ∃ S, S = sealed kkey abc := ⟨_, rfl⟩
  have hSl : S.length = 19 := by rw [hS]; exact seal_len
  have ho' := ho
  rw [← hS] at ho'
  obtain ⟨A2, c2, rfl, hc2, hr2⟩ := own_reads_of_le (d := (0 : UInt8)) ho'
  rw [hSl] at hr2 hc2 ⊢
  have hs := Open.open_any sk A2 19 c2 S w4 hT4 (by decide) hr2 (by omega) hc2
  rw [sb_sk, hS, open_abc] at hs
  have hs2 := Lib.hid hs
  clear hs hr2 ho ho' hS hSl hb4 hr3 hT3 hB3 hs' hc2
  go_wp2_with fail
  refine hs2.out.mono ?_
  rintro e w5 ⟨v, rfl, ho, hb5⟩
  have hT5 := hT4.below hb5
  have hr5 := hr4.below hb5
  have hB5 := hB4.trans (hb5.mono hS4)
  have hS5 := hB5.size
  obtain ⟨A3, c3, rfl, _, hr3⟩ := own_reads_of_le (d := (0 : UInt8)) ho
  have hs := Open.open_any sk none 0 0 [] w5 hT5 (by decide) (reads_nil _) (by omega) (by omega)
  rw [sb_sk, open_nil] at hs
  have hs3 := Lib.hid hs
  clear hs ho hb5 hr4 hT4 hB4 hs2 hS4
  go_wp2_with fail
  refine hs3.out.mono ?_
  rintro e w6 ⟨v, rfl, ho, hb6⟩
  have hT6 := hT5.below hb6
  have hr6 := hr5.below hb6
  have hr36 := hr3.below hb6
  have hB6 := hB5.trans (hb6.mono hS5)
  have hS6 := hB6.size
  obtain ⟨A4, c4, rfl, _, _⟩ := own_reads_of_le (d := (0 : UInt8)) ho
  have hs := Key.key_any sk (-1) w6 hT6 (by decide) (by omega) (by omega)
  rw [sb_sk, key_neg] at hs
  have hs4 := Lib.hid hs
  clear hs ho hb6 hr5 hr3 hT5 hB5 hs3 hS5
  go_wp2_with fail
  refine hs4.out.mono ?_
  rintro e w7 ⟨rfl, hb7⟩
  have hr7 := hr6.below hb7
  have hr37 := hr36.below hb7
  have hB7 := Lib.hid (hB6.trans (hb7.mono hS6))
  have sx := string_of (c := c3) hr37
  have hs1 : (str abc).toList = [97, 98, 99] := str_list abc
  obtain ⟨ad, rfl⟩ := reads_some hr7 (by omega)
  have c0 : w7.cell? ad = some (.int .u8 247) := by have h := reads_cell hr7 0 (by omega); rw [f0] at h; exact h
  have c1' : w7.cell? ⟨ad.block, ad.off + 1, none⟩ = some (.int .u8 188) := by have h := reads_cell hr7 1 (by omega); rw [f1] at h; exact h
  have c31 : w7.cell? ⟨ad.block, ad.off + 31, none⟩ = some (.int .u8 216) := by have h := reads_cell hr7 31 (by omega); rw [f31] at h; exact h
  clear hr7 hr37 hr6 hr36 hb7 hB6 hT6 hs4 f0 f1 f31
  go_wp2_with fail
  go_ret
  exact ⟨rfl, hB7.out⟩
end Go.Proofs.YtcelojkecfiocaaDoor.Awake4
