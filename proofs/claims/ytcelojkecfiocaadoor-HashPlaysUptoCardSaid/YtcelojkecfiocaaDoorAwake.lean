/- The document's examples, asked ahead of each statement on hashes. -/
import Derived.Test.YtcelojkecfiocaaDoorStr
import Derived.Deep.RegionHeld3
namespace Go.Proofs.YtcelojkecfiocaaDoor.Awake
open Go.RowKit Go.Proofs.YtcelojkecfiocaaDoor.Bv Go.Proofs.YtcelojkecfiocaaDoor.Mem
open Go.Proofs.YtcelojkecfiocaaDoorW.PrintWords
open Go.Proofs.YtcelojkecfiocaaDoor.Changed (Tabs list8)
open Go.Proofs.YtcelojkecfiocaaDoor.Obj
open Go.Proofs.YtcelojkecfiocaaDoor.Str
open Go.Proofs.YtcelojkecfiocaaDoor.HSum (reads_new)
open Go.Proofs.YtcelojkecfiocaaDoor.RefFilled (info5 Own)

def abc : List UInt8 := [97, 98, 99]
theorem sha_abc : (Sha.sha abc).length = 32 ∧ Sha.b8 (Sha.sha abc) 0 = 186 ∧ Sha.b8 (Sha.sha abc) 1 = 120 ∧ Sha.b8 (Sha.sha abc) 31 = 173 := by decide +kernel

def Post (w : World) (e : Ending) (w' : World) : Prop := e = .returned (.bool true) ∧ Below w.heap.size w w'

set_option maxRecDepth 100000 in
set_option maxHeartbeats 2000000 in
theorem awake_any (w : World) (hT : Tabs w) : Calls Tryd.prog 13 #[] w (Post w) := by
  go_enter Tryd.func13, Tryd.ntmps13
  have hnew := reads_mark w abc (3, 4) (by decide)
  have hb1 : Below w.heap.size w (w.alloc (.cells (abc.map eb).toArray 5 (3, 4))) := (Below.refl _ _).alloc (Nat.le_refl _) _
  have e1 : (w.alloc (.cells (abc.map eb).toArray 5 (3, 4))) = w.alloc (.cells #[.int .u8 97, .int .u8 98, .int .u8 99] 5 (3, 4)) := rfl
  rw [e1] at hnew hb1
  have hT1 := hT.below hb1
  go_wp2_with fail
  refine (Clone.hashsum_any (some ⟨w.heap.size, 0, none⟩) 3 3 abc _ hT1 hnew (by omega)).mono ?_
  rintro e w2 ⟨v, rfl, hown, hb2⟩
  have hT2 := hT1.below hb2
  replace hb2 := hb1.trans (hb2.mono hb1.size)
  obtain ⟨hl, h0, h1, h31⟩ := sha_abc
  obtain ⟨A1, c1, rfl, _, hrd⟩ := own_reads_of_le (d := (0 : UInt8)) hown
  rw [hl] at hrd
  clear hown hnew hb1 hT1 e1
  rw [hl]
  have hsz2 := hb2.size
  go_wp2_with fail
  refine (new_any w2 hT2).mono ?_
  rintro e w3 ⟨rfl, hh, hb3⟩
  have hT3 := hT2.below hb3
  have hr3 := hrd.below hb3
  have hhl := hh.lt
  replace hb3 := hb2.trans (hb3.mono hb2.size)
  clear hrd hT2
  have hnew2 := reads_mark w3 [97, 98] (2, 3) (by decide)
  have hb4 : Below w3.heap.size w3 (w3.alloc (.cells (([97, 98] : List UInt8).map eb).toArray 5 (2, 3))) := (Below.refl _ _).alloc (Nat.le_refl _) _
  have e2 : (w3.alloc (.cells (([97, 98] : List UInt8).map eb).toArray 5 (2, 3))) = w3.alloc (.cells #[.int .u8 97, .int .u8 98] 5 (2, 3)) := rfl
  rw [e2] at hnew2 hb4
  have hT4 := hT3.below hb4
  have hh4 := hh.below hb4
  have hr4 := hr3.below hb4
  go_wp2_with fail
  refine (Write.write_any w2.heap.size [] (some ⟨w3.heap.size, 0, none⟩) 2 2 [97, 98] _ hT4 hh4 hnew2 (by omega) (by decide)).mono ?_
  rintro e w5 ⟨rfl, hh5, hb5⟩
  have hT5 := hb5.tabs hT4 hh4.old
  have hr5 := reads_hash hr4 hh4 hb5
  replace hb3 := hb3.trans (hb4.mono hb3.size)
  replace hb3 := hb3.trans (hb5.below hb2.size hb3.size)
  clear hr4 hr3 hh4 hh hnew2 hb4 hT4 hT3 e2 hb5
  simp only [List.nil_append] at hh5
  have hnew3 := reads_mark w5 [99] (1, 2) (by decide)
  have hb6 : Below w5.heap.size w5 (w5.alloc (.cells (([99] : List UInt8).map eb).toArray 5 (1, 2))) := (Below.refl _ _).alloc (Nat.le_refl _) _
  have e3 : (w5.alloc (.cells (([99] : List UInt8).map eb).toArray 5 (1, 2))) = w5.alloc (.cells #[.int .u8 99] 5 (1, 2)) := rfl
  rw [e3] at hnew3 hb6
  have hT6 := hT5.below hb6
  have hh6 := hh5.below hb6
  have hr6 := hr5.below hb6
  go_wp2_with fail
  refine (Write.write_any w2.heap.size [97, 98] (some ⟨w5.heap.size, 0, none⟩) 1 1 [99] _ hT6 hh6 hnew3 (by omega) (by decide)).mono ?_
  rintro e w7 ⟨rfl, hh7, hb7⟩
  have hT7 := hb7.tabs hT6 hh6.old
  have hr7 := reads_hash hr6 hh6 hb7
  replace hb3 := hb3.trans (hb6.mono hb3.size)
  replace hb3 := hb3.trans (hb7.below hb2.size hb3.size)
  clear hr6 hr5 hh6 hh5 hnew3 hb6 hT6 hT5 e3 hb7
  have hh7' : HashAt w7 w2.heap.size abc := hh7
  clear hh7
  obtain ⟨ad, rfl⟩ := reads_some hr7 (by omega)
  have c0 : w7.cell? ad = some (.int .u8 186) := by have h := reads_cell hr7 0 (by omega); rw [h0] at h; exact h
  have c1' : w7.cell? ⟨ad.block, ad.off + 1, none⟩ = some (.int .u8 120) := by have h := reads_cell hr7 1 (by omega); rw [h1] at h; exact h
  have c31 : w7.cell? ⟨ad.block, ad.off + 31, none⟩ = some (.int .u8 173) := by have h := reads_cell hr7 31 (by omega); rw [h31] at h; exact h
  go_upto_region 7 with fail
  have hTd : Tabs w7.drew := hT7.below (Below.refl _ _).drew
  have hhd : HashAt w7.drew w2.heap.size abc := hh7'.below (Below.refl _ _).drew
  have hrd : ReadsOf eb 0 w7.drew (some ad) 32 (Sha.sha abc) := hr7
  have hs1 := string_of (c := c1) hrd
  have hl1 := hl
  have h3 : ((abc.length : Nat) : Int) = 3 := rfl
  go_region_with (first | (go_at_call 21; refine (HSum.sum_any w2.heap.size abc w7.drew hTd hhd (by decide)).mono ?_; rintro e w8 ⟨v8, rfl, hown8, hb8⟩; have hr8 := hrd.below hb8; have hh8 := hhd.below hb8; have hs8 := string_of (c := c1) hr8; obtain ⟨A8, c8, rfl, _, hrd8⟩ := own_reads_of_le (d := (0 : UInt8)) hown8; rw [hl1] at hrd8 ⊢; have hs9 := string_of (c := c8) hrd8) | (go_at_call 22; refine (Obj.len_any w2.heap.size abc w8 hh8).mono ?_; rintro e w9 ⟨rfl, rfl⟩; rw [h3]))
  all_goals (go_wp2_with fail; go_ret; exact ⟨rfl, hb3.trans ((Below.refl _ _).drew.trans (hb8.mono hb3.size))⟩)
end Go.Proofs.YtcelojkecfiocaaDoor.Awake
