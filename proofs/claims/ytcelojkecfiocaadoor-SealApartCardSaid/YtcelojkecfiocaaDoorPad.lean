/- A secret's pad: 64 bytes. -/
import Derived.Test.YtcelojkecfiocaaDoorStr
import Derived.Laws.CopyOwn
namespace Go.Proofs.YtcelojkecfiocaaDoor.Pad
open Go.RowKit Go.Proofs.YtcelojkecfiocaaDoor.Bv Go.Proofs.YtcelojkecfiocaaDoor.Mem
open Go.Proofs.YtcelojkecfiocaaDoorW.PrintWords
open Go.Proofs.YtcelojkecfiocaaDoor.Changed (Tabs)
open Go.Proofs.YtcelojkecfiocaaDoor.Str

/-- The bytes of a string. -/
def sb (s : ByteArray) : List UInt8 := s.data.toList
theorem sb_length (s : ByteArray) : (sb s).length = s.size := data_length s
/-- What is padded. -/
def key (k : List UInt8) : List UInt8 := if 64 < k.length then Sha.sha k else k
def pad (k : List UInt8) : List UInt8 := key k ++ List.replicate (64 - (key k).length) 0
theorem key_length (k : List UInt8) : (key k).length ≤ 64 := by
  unfold key
  split
  · rw [Sha.sha_length]; omega
  · omega
theorem pad_length (k : List UInt8) : (pad k).length = 64 := by
  have := key_length k
  simp [pad]
  omega

theorem str_reads (W : World) (s : ByteArray) (hs : s.size ≤ 9223372036854775807) : ReadsOf eb 0 (Lib.bytesWorld W 5 s) (some ⟨W.heap.size, 0, none⟩) s.size (sb s) := by
  refine ⟨sb_length s, hs, fun _ => ⟨_, rfl, fun j hj => ?_⟩⟩
  rw [add_plain, Lib.bytesWorld_cell W 5 s j hj]
  have h' : j < s.data.toList.length := by rw [data_length]; exact hj
  simp [sb, eb, tb, List.getD_eq_getElem?_getD, List.getElem?_eq_getElem h']

theorem info5 : (Tryd.prog.info? 5).map (fun i => (i.zero, i.size, i.bytes)) = some (some (.int .u8 0), 1, 1) := by kernel_rfl

def Post (L : List UInt8) (w : World) (e : Ending) (w' : World) : Prop :=
  ∃ g, e = .returned (.slice (some ⟨g, 0, none⟩) 64 64) ∧ w.heap.size ≤ g ∧ Arr w' g 5 (L.map eb) ∧ Below w.heap.size w w'

/-- What a copy wants of the bytes that are read. -/
theorem copy_src {W : World} {A : Option Addr} {n : Nat} {l : List UInt8} (h : ReadsOf eb 0 W A n l) : 0 < (l.map eb).length → ∃ ad, A = some ad ∧ ∀ j v, (l.map eb)[j]? = some v → W.cell? (ad.add j) = some v := by
  intro h0
  rw [List.length_map, h.1] at h0
  obtain ⟨ad, e, hc⟩ := h.2.2 h0
  refine ⟨ad, e, fun j v hv => ?_⟩
  obtain ⟨x, hx, rfl⟩ : ∃ x, l[j]? = some x ∧ eb x = v := by simpa using hv
  have hj : j < l.length := (List.getElem?_eq_some_iff.1 hx).1
  rw [hc j (by have := h.1; omega)]
  simp [List.getD, hx]
theorem copy_one (l : List UInt8) : ∀ v ∈ l.map eb, v.oneCell' = true := by
  intro v hv
  obtain ⟨x, _, rfl⟩ := List.mem_map.1 hv
  rfl

theorem splice_pad (K : List UInt8) : splice (List.replicate 64 (eb 0)) 0 (K.map eb) = (K ++ List.replicate (64 - K.length) 0).map eb := by
  unfold splice
  rw [List.take_zero, List.nil_append, Nat.zero_add, List.length_map, List.drop_replicate, List.map_append, List.map_replicate]
/-- A new row of 64 zeros. -/
def zero64 : Obj := .cells (madeCells #[.int .u8 0] 64) 5
theorem make64 (W : World) : (Instr.makeSlice 22 (.int .i64 64) (.int .i64 64)).run Tryd.prog W = .ok (.slice (some ⟨W.heap.size, 0, none⟩) 64 64) (W.alloc zero64) :=
  print_make_int (P := Tryd.prog) 22 5 (.int .u8 0) 1 Tryd.underlying22 info5 rfl (by omega) 64 (by omega) (by decide) W
theorem zero_arr (W : World) : Arr (W.alloc zero64) W.heap.size 5 (List.replicate 64 (eb 0)) := by
  have hz : madeCells #[Value.int .u8 0] 64 = (List.replicate 64 (eb 0)).toArray := by
    apply Array.ext'
    rw [toList_madeCells_one]
    rfl
  have := Arr.new W 5 (List.replicate 64 (eb 0))
  unfold zero64
  rw [hz]
  exact this

set_option maxRecDepth 100000 in
set_option maxHeartbeats 800000 in
theorem pad_any (s : ByteArray) (w : World) (hT : Tabs w) (hs : s.size ≤ 140737488351232) : Calls Tryd.prog 46 #[.string s] w (Post (pad (sb s)) w) := by
  have kb := fun W : World => print_bytes (P := Tryd.prog) 9 22 5 Tryd.underlying9 Tryd.underlying22 (by kernel_rfl) s W
  have hr := str_reads w s (by omega)
  have hb : Below w.heap.size w (Lib.bytesWorld w 5 s) := bytes_below (Below.refl _ _) (Nat.le_refl _) 5 s
  have hT1 := hT.below hb
  have hmk := make64
  have hsl := sb_length s
  go_enter Tryd.func46, Tryd.ntmps46
  go_upto_region 2 with fail
  generalize Lib.bytesWorld w 5 s = w1 at hr hb hT1 ⊢
  generalize grownCap w s.size 0 5 = cs
  clear kb
  by_cases hlong : 64 < s.size
  · have hk : key (sb s) = Sha.sha (sb s) := by rw [key, if_pos (by omega)]
    go_upto_region 4 with (go_at_call 15; refine (Clone.hashsum_any (some ⟨w.heap.size, 0, none⟩) s.size cs (sb s) w1 hT1 hr hs).mono ?_; rintro e w2 ⟨v, rfl, ho, hb2⟩; obtain ⟨A, c, rfl, _, hrd⟩ := own_reads_of_le (d := (0 : UInt8)) ho)
    have hb3 := hb.trans (hb2.mono hb.size)
    have h32 : (Sha.sha (sb s)).length = 32 := Sha.sha_length _
    rw [h32] at hrd ⊢
    clear ho hb2 hb hr hT1
    go_upto_region 5 with (fail)
    have hnew := zero_arr w2
    have hbn : Below w.heap.size w (w2.alloc zero64) := hb3.alloc hb3.size _
    have hrn := hrd.below (((Below.refl _ w2).alloc (Nat.le_refl _) zero64) : Below w2.heap.size w2 (w2.alloc zero64))
    have hge : w.heap.size ≤ w2.heap.size := hb3.size
    generalize w2.heap.size = g at hnew hge ⊢
    generalize w2.alloc zero64 = w3 at hnew hbn hrn ⊢
    have hsrc := Lib.hid (copy_src hrn)
    have hone := Lib.hid (copy_one (Sha.sha (sb s)))
    have hlen : (Sha.sha (sb s)).length ≤ 64 := by omega
    have hrl := hrn.1
    clear hrn hmk
    go_wp2_with ((with_reducible refine wpList_copy_splice (o := ⟨some 15, _, _, _, _, _⟩) ?k0 (.tmp 13) (.tmp 14) 22 22 ?k1 5 Tryd.underlying22 ?k2 (some ⟨g, 0, none⟩) A 64 64 32 c ?k3 ?k4 g 0 (List.replicate 64 (eb 0)) 5 ?k5 ((Sha.sha (sb s)).map eb) ?k6 ?k9 ?k7 ?k10 w.heap.size w hbn hge ?k8); (case k0 => rfl); (case k1 => rfl); (case k2 => kernel_rfl); (case k3 => rfl); (case k4 => rfl); (case k5 => exact hnew); (case k6 => (rw [List.length_map, hrl]; exact (Nat.min_eq_left (by omega)).symm)); (case k7 => (simp; omega)); (case k9 => exact fun h => ⟨rfl, hsrc.out h⟩); (case k10 => exact hone.out); intro w4 hx4 hb4; clear hnew hbn)
    go_ret
    refine ⟨g, rfl, hge, ?_, hb4⟩
    have h1 : w4.heap[g]? = _ := hx4
    unfold Arr
    rw [h1]
    rw [splice_pad, pad, hk]
  · have hk : key (sb s) = sb s := by rw [key, if_neg (by omega)]
    clear hT1
    go_upto_region 5 with (fail)
    have hnew := zero_arr w1
    have hbn : Below w.heap.size w (w1.alloc zero64) := hb.alloc hb.size _
    have hrn := hr.below (((Below.refl _ w1).alloc (Nat.le_refl _) zero64) : Below w1.heap.size w1 (w1.alloc zero64))
    have hge : w.heap.size ≤ w1.heap.size := hb.size
    generalize w1.heap.size = g at hnew hge ⊢
    generalize w1.alloc zero64 = w3 at hnew hbn hrn ⊢
    have hsrc := Lib.hid (copy_src hrn)
    have hone := Lib.hid (copy_one (sb s))
    have hlen : (sb s).length ≤ 64 := by omega
    have hrl := hrn.1
    clear hrn hmk
    go_wp2_with ((with_reducible refine wpList_copy_splice (o := ⟨some 15, _, _, _, _, _⟩) ?m0 (.tmp 13) (.tmp 14) 22 22 ?m1 5 Tryd.underlying22 ?m2 (some ⟨g, 0, none⟩) (some ⟨w.heap.size, 0, none⟩) 64 64 s.size cs ?m3 ?m4 g 0 (List.replicate 64 (eb 0)) 5 ?m5 ((sb s).map eb) ?m6 ?m9 ?m7 ?m10 w.heap.size w hbn hge ?m8); (case m0 => rfl); (case m1 => rfl); (case m2 => kernel_rfl); (case m3 => rfl); (case m4 => rfl); (case m5 => exact hnew); (case m6 => (rw [List.length_map, hrl]; exact (Nat.min_eq_left (by omega)).symm)); (case m7 => (simp; omega)); (case m9 => exact fun h => ⟨rfl, hsrc.out h⟩); (case m10 => exact hone.out); intro w4 hx4 hb4; clear hnew hbn)
    go_ret
    refine ⟨g, rfl, hge, ?_, hb4⟩
    have h1 : w4.heap[g]? = _ := hx4
    unfold Arr
    rw [h1]
    rw [splice_pad, pad, hk]
end Go.Proofs.YtcelojkecfiocaaDoor.Pad
