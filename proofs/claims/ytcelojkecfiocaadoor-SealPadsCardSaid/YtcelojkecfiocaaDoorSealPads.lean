/- SealPads: a secret of more than 64 bytes is worth its digest, one with 0 behind it what it is without them. -/
import Derived.Test.YtcelojkecfiocaaDoorAwake4
import Derived.Test.YtcelojkecfiocaaDoorHold
import Derived.Laws.BitsAllLaws
namespace Go.Proofs.YtcelojkecfiocaaDoor.SealPads
open Go.RowKit Go.Proofs.YtcelojkecfiocaaDoor.Bv Go.Proofs.YtcelojkecfiocaaDoor.Mem
open Go.Proofs.YtcelojkecfiocaaDoorW.PrintWords
open Go.Proofs.YtcelojkecfiocaaDoor.Changed (Tabs RTabs)
open Go.Proofs.YtcelojkecfiocaaDoor.Pad (sb sb_length str_reads key pad)
open Go.Proofs.YtcelojkecfiocaaDoor.Mac (mac mac_length)
open Go.Proofs.YtcelojkecfiocaaDoor.Str
open Go.Proofs.YtcelojkecfiocaaDoor.SealP
open Go.Proofs.YtcelojkecfiocaaDoor.Hold (Done)
open Go.Proofs.YtcelojkecfiocaaDoor.RefFilled (info5)

theorem mac_pad {k k2 : List UInt8} (h : pad k2 = pad k) (l : List UInt8) : mac k2 l = mac k l := by unfold mac; rw [h]
theorem pad_sha {k : List UInt8} (h : 64 < k.length) : pad (Sha.sha k) = pad k := by
  have e : key (Sha.sha k) = key k := by
    rw [key, if_neg (by rw [Sha.sha_length]; omega), key, if_pos h]
  unfold pad
  rw [e]
theorem pad_zeros {k : List UInt8} {z : Nat} (h : k.length + z ≤ 64) : pad (k ++ List.replicate z 0) = pad k := by
  have e1 : key (k ++ List.replicate z 0) = k ++ List.replicate z 0 := by rw [key, if_neg (by simp; omega)]
  have e2 : key k = k := by rw [key, if_neg (by omega)]
  unfold pad
  rw [e1, e2, List.append_assoc, List.replicate_append_replicate]
  congr 2
  simp
  omega
theorem i64_and63 (n : Int) : bits .and .i64 n 63 = n % 64 := by
  have h63 : (BitVec.ofInt 64 63).toNat = 2 ^ 6 - 1 := by decide
  have key : (BitVec.ofInt 64 n &&& BitVec.ofInt 64 63).toNat = (n % ((2 ^ 64 : Nat) : Int)).toNat % 2 ^ 6 := by
    rw [BitVec.toNat_and, BitVec.toNat_ofInt, h63, Nat.and_two_pow_sub_one_eq_mod]
  show IntKind.i64.wrap ((BitVec.ofInt 64 n &&& BitVec.ofInt 64 63).toNat : Nat) = n % 64
  rw [key, IntKind.wrap_i64]
  omega
theorem sb_str (l : List UInt8) : sb (str l) = l := rfl
theorem sb_app (s : ByteArray) (l : List UInt8) : sb (s ++ str l) = sb s ++ l := by
  unfold sb
  rw [ByteArray.data_append]
  simp [str]
theorem size_str (l : List UInt8) : (str l).size = l.length := rfl
theorem zeros_arr (W : World) (n : Nat) : Arr (W.alloc (.cells (madeCells #[.int .u8 0] n) 5)) W.heap.size 5 ((List.replicate n 0).map eb) := by
  have hz : madeCells #[Value.int .u8 0] n = ((List.replicate n 0).map eb).toArray := by
    apply Array.ext'
    rw [toList_madeCells_one]
    rw [List.map_replicate]
    rfl
  have := Arr.new W 5 ((List.replicate n 0).map eb)
  rw [hz]
  exact this
theorem reads_arr {W : World} {g : Nat} {l : List UInt8} (h : Arr W g 5 (l.map eb)) (hn : l.length ≤ 9223372036854775807) : ReadsOf eb 0 W (some ⟨g, 0, none⟩) l.length l := by
  refine ⟨rfl, hn, fun _ => ⟨_, rfl, fun j hj => ?_⟩⟩
  rw [add_plain, h.cell]
  simp [hj]

set_option maxRecDepth 100000 in
set_option maxHeartbeats 3200000 in
theorem pads_any (s : ByteArray) (A : Option Addr) (c : Nat) (l : List UInt8) (n : Int) (w : World) (hT : Tabs w) (hs : s.size ≤ 140737488351232)
    (hr : ReadsOf eb 0 w A l.length l) (hn : l.length ≤ 140737488351232) :
    Calls Tryd.prog 10 #[.string s, .int .i64 n, .slice A l.length c] w (Done w) := by
  have hsl := sb_length s
  go_enter Tryd.func10, Tryd.ntmps10
  go_wp2_with fail
  refine (Awake4.awake_any w hT).mono ?_
  rintro e w1 ⟨rfl, hb1⟩
  have hT1 := hT.below hb1
  have hr1 := hr.below hb1
  have hs1 := hb1.size
  go_wp2_with fail
  refine (Mac.macx_any s A l.length c l w1 hT1 hs hr1 hn).mono ?_
  rintro e w2 (⟨hk, v, rfl, hv, hb2⟩ | ⟨hk, rfl, hb2⟩)
  · have hB2 := hb1.trans (hb2.mono hs1)
    have hT2 := hT1.below hb2
    obtain ⟨M, hM⟩ : ∃ M, M = mac (sb s) l := ⟨_, rfl⟩
    have hMl : M.length = 32 := by rw [hM]; exact mac_length _ _
    rw [← hM] at hv
    have hM' := Lib.hid hM
    obtain ⟨Av, cv, rfl, _, hrv⟩ := own_reads_of_le (d := (0 : UInt8)) hv
    rw [hMl] at hrv ⊢
    clear hM hMl hb1 hb2 hT1 hr1 hs1 hv
    by_cases h64 : 64 < s.size
    · have kb := fun W : World => print_bytes (P := Tryd.prog) 9 22 5 Tryd.underlying9 Tryd.underlying22 (by kernel_rfl) s W
      go_wp2_with fail
      have hrd := str_reads w2 s (by omega)
      have hbb : Below w2.heap.size w2 (Lib.bytesWorld w2 5 s) := bytes_below (Below.refl _ _) (Nat.le_refl _) 5 s
      have hTb := hT2.below hbb
      have hrb := hrv.below hbb
      have hBb := hB2.trans (hbb.mono hB2.size)
      generalize Lib.bytesWorld w2 5 s = wb at hrd hTb hrb hBb ⊢
      generalize grownCap w2 s.size 0 5 = cs
      have hsb := hBb.size
      clear hbb kb hT2 hrv hB2
      refine (Clone.hashsum_any (some ⟨w2.heap.size, 0, none⟩) s.size cs (sb s) wb hTb hrd hs).mono ?_
      rintro e w3 ⟨v3, rfl, hv3, hb3⟩
      have hT3 := hTb.below hb3
      have hrv3 := hrb.below hb3
      have hB3 := hBb.trans (hb3.mono hsb)
      obtain ⟨D, hD⟩ : ∃ D, D = Sha.sha (sb s) := ⟨_, rfl⟩
      have hDl : D.length = 32 := by rw [hD]; exact Sha.sha_length _
      rw [← hD] at hv3
      obtain ⟨A3, c3, rfl, _, hr3⟩ := own_reads_of_le (d := (0 : UInt8)) hv3
      have s3 := string_of (c := c3) hr3
      have hD' := Lib.hid hD
      have hDl' := Lib.hid hDl
      clear hb3 hTb hrb hBb hsb hrd hD hDl hv3 hr3
      go_wp2_with fail
      clear s3
      have hp := mac_pad (show Pad.pad D = Pad.pad (sb s) by rw [hD'.out]; exact pad_sha (by omega)) l
      have hp' := Lib.hid hp
      clear hp
      refine (Mac.macx_any (str D) A l.length c l w3 hT3 (by rw [size_str, hDl'.out]; omega) (hr.below hB3) hn).mono ?_
      rintro e w4 (⟨hk4, v4, rfl, hv4, hb4⟩ | ⟨hk4, rfl, hb4⟩)
      rotate_left
      · exfalso
        have := sb_length (str D)
        rw [size_str, hDl'.out] at this
        omega
      rw [sb_str, hp'.out, ← hM'.out] at hv4
      obtain ⟨A4, c4, rfl, _, hr4⟩ := own_reads_of_le (d := (0 : UInt8)) hv4
      have hMl : M.length = 32 := by rw [hM'.out]; exact mac_length _ _
      rw [hMl] at hr4 ⊢
      have s4 := string_of (c := c4) hr4
      have sv := string_of (c := cv) (hrv3.below hb4)
      have hB4 := Lib.hid (hB3.trans (hb4.mono hB3.size))
      clear hb4 hB3 hr4 hrv3 hv4 hMl hT3
      go_wp2_with fail
      go_ret
      exact ⟨rfl, hB4.out⟩
    · have ha : bits BinOp.and IntKind.i64 n 63 = n % 64 := i64_and63 n
      obtain ⟨j, hj⟩ : ∃ j : Nat, n % 64 = (j : Int) := ⟨(n % 64).toNat, by omega⟩
      have hj64 : j < 64 := by omega
      obtain ⟨N, hN, hN1⟩ : ∃ N : Nat, (if 64 - (s.size : Int) < (j : Int) then 64 - (s.size : Int) else (j : Int)) = (N : Int) ∧ s.size + N ≤ 64 := by
        refine ⟨(if 64 - (s.size : Int) < (j : Int) then 64 - (s.size : Int) else (j : Int)).toNat, ?_, ?_⟩
        · split <;> omega
        · split <;> omega
      have hmk := print_make_int (P := Tryd.prog) 22 5 (.int .u8 0) 1 Tryd.underlying22 info5 rfl (by omega) (N : Int) (by omega) (by omega)
      rw [Int.toNat_natCast] at hmk
      have hzr : ReadsOf eb 0 (w2.alloc (.cells (madeCells #[.int .u8 0] N) 5)) (some ⟨w2.heap.size, 0, none⟩) N (List.replicate N 0) := by
        have := reads_arr (zeros_arr w2 N) (by simp; omega)
        rwa [List.length_replicate] at this
      have hzs := string_of (c := N) hzr
      obtain ⟨Z, hZ⟩ : ∃ Z, Z = str (List.replicate N 0) := ⟨_, rfl⟩
      have hZs : Z.size = N := by rw [hZ, size_str, List.length_replicate]
      rw [← hZ] at hzs
      have hZ' := Lib.hid hZ
      clear hZ
      have hbz : Below w2.heap.size w2 (w2.alloc (.cells (madeCells #[.int .u8 0] N) 5)) := (Below.refl _ _).alloc (Nat.le_refl _) _
      have hT3 := hT2.below hbz
      have hrv3 := hrv.below hbz
      have hB3 := hB2.trans (hbz.mono hB2.size)
      clear hzr hbz hT2 hrv hB2
      go_wp2_with fail
      generalize w2.alloc (.cells (madeCells #[.int .u8 0] N) 5) = w3 at hT3 hrv3 hB3 ⊢
      clear hzs hmk ha hj hN
      rw [hZ'.out]
      have hp := mac_pad (show Pad.pad (sb s ++ List.replicate N 0) = Pad.pad (sb s) from pad_zeros (by omega)) l
      have hp' := Lib.hid hp
      clear hp
      refine (Mac.macx_any (s ++ str (List.replicate N 0)) A l.length c l w3 hT3 (by rw [ByteArray.size_append, size_str, List.length_replicate]; omega) (hr.below hB3) hn).mono ?_
      rintro e w4 (⟨hk4, v4, rfl, hv4, hb4⟩ | ⟨hk4, rfl, hb4⟩)
      rotate_left
      · exfalso
        have := sb_length (s ++ str (List.replicate N 0))
        rw [ByteArray.size_append, size_str, List.length_replicate] at this
        omega
      rw [sb_app, hp'.out, ← hM'.out] at hv4
      obtain ⟨A4, c4, rfl, _, hr4⟩ := own_reads_of_le (d := (0 : UInt8)) hv4
      have hMl : M.length = 32 := by rw [hM'.out]; exact mac_length _ _
      rw [hMl] at hr4 ⊢
      have s4 := string_of (c := c4) hr4
      have sv := string_of (c := cv) (hrv3.below hb4)
      have hB4 := Lib.hid (hB3.trans (hb4.mono hB3.size))
      clear hb4 hB3 hr4 hrv3 hv4 hMl hT3
      go_wp2_with fail
      go_ret
      exact ⟨rfl, hB4.out⟩
  · have hB2 := Lib.hid (hb1.trans (hb2.mono hs1))
    clear hb1 hb2 hT1 hr1 hs1
    go_wp2_with fail
    go_ret
    exact ⟨rfl, hB2.out⟩
end Go.Proofs.YtcelojkecfiocaaDoor.SealPads
