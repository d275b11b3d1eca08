/- sum.Frame and the reference's Frame: bytes with their sum. Conditions: lengths below 2^47. -/
import Derived.Test.YtcfgcbcciaeabaaDoorRefMore
import Derived.Laws.MakeOwn
namespace Go.Proofs.YtcfgcbcciaeabaaDoor.Frame
open Go.RowKit Go.Proofs.YtcfgcbcciaeabaaDoor.Bv Go.Proofs.YtcfgcbcciaeabaaDoor.Mem
open Go.Proofs.YtcfgcbcciaeabaaDoorW.PrintWords
open Go.Proofs.YtcfgcbcciaeabaaDoor.Crc
open Go.Proofs.YtcfgcbcciaeabaaDoor.More (Tab sumP)
open Go.Proofs.YtcfgcbcciaeabaaDoor.Obj (info5)
open Go.Proofs.YtcfgcbcciaeabaaDoor.Str

def Row (r : List UInt8) (w : World) (e : Ending) (w' : World) : Prop :=
  ∃ v, e = .returned v ∧ w'.ownsRow w.heap.size 5 1 v r.length (encs eb r) ∧ Below w.heap.size w w'
theorem low_eq (S : W) (i : Nat) : Sha.low (S >>> (8 * i)) = Crc.low S i := by
  apply UInt8.toNat_inj.1
  unfold Sha.low Crc.low
  rw [UInt8.toNat_ofNat', UInt8.toNat, BitVec.toNat_setWidth]
theorem low_mod (X : W) : tn X % 256 = tb (Sha.low X) := by
  have h := conv_low X
  rw [IntKind.wrap_u8] at h
  exact h
theorem shr_div (X : W) : tn X / (256 : Int) = tn (X >>> 8) := by
  unfold tn
  rw [BitVec.toNat_ushiftRight, Nat.shiftRight_eq_div_pow]
  rfl
theorem quo256 (X : W) : wrap64 ((tn X).tdiv 256) = tn (X >>> 8) := by
  have h := tn_range X
  rw [← shr_div, Int.tdiv_eq_ediv_of_nonneg h.1]
  unfold wrap64
  omega
theorem tail_take (S : W) (i : Nat) (h : i < 4) : (tail S).take (i + 1) = (tail S).take i ++ [Crc.low S i] := by
  have : i = 0 ∨ i = 1 ∨ i = 2 ∨ i = 3 := by omega
  rcases this with rfl | rfl | rfl | rfl <;> rfl

set_option maxRecDepth 100000 in
set_option maxHeartbeats 1600000 in
theorem frame_any (A : Option Addr) (n c : Nat) (l : List UInt8) (w : World) (hT : Tab w) (hr : ReadsOf eb 0 w A n l) (hn : n ≤ 140737488351232) :
    Calls Tryd.prog 19 #[.slice A n c] w (Row (frame l) w) := by
  obtain rfl := hr.1
  obtain ⟨i0, hi, hz0, hz1, hz2⟩ := info_parts info5
  obtain ⟨w1, hmk, ho1, hg1⟩ := run_make_own (P := Tryd.prog) w w.heap.size 22 5 i0 _ 1 Tryd.underlying22 hi hz0 hz1 .i64 .i64 (l.length + 4) (by rw [hz2]; omega) (by simp only [maxLen]; omega) (Nat.le_refl _)
  simp only [Int.natCast_add, Int.cast_ofNat_Int] at hmk
  have hb1 : Below w.heap.size w w1 := Below.grown (Below.refl _ _) hg1 (Nat.le_refl _) (fun q hq => by cases hq)
  have hr1 := hr.below hb1
  have hS1 := hb1.size
  have ho1' : w1.ownsRow w.heap.size 5 1 (.slice (some ⟨w.heap.size, 0, none⟩) 0 (l.length + 4)) ([] : List UInt8).length (encs eb []) := ho1
  clear hi hz0 hz1 hz2 hg1 ho1
  go_enter Tryd.func19, Tryd.ntmps19
  go_upto_region 2 with (at_builtin; (with_reducible refine print_append_row_of (w0 := w) (o := ⟨some 10, _, _, _, _, _⟩) eb 0 w.heap.size ?q1x0 (.tmp 8) (.tmp 9) 22 5 (.int .u8 0) 1 ?q1x1 Tryd.underlying22 info5 ?q1x2 ?q1x3 ?q1x4 _ [] l A l.length c ?q1x5 ?q1x6 ho1' hr1 hb1 ?q1x7 ?q1x8 ?q1x9); (case q1x0 => rfl); (case q1x1 => rfl); (case q1x2 => rfl); (case q1x3 => omega); (case q1x4 => exact fun _ => rfl); (case q1x5 => rfl); (case q1x6 => rfl); (case q1x7 => exact hS1); (case q1x8 => simp; omega); intro v2 w2 hown hbel _ _; simp only [List.nil_append] at hown)
  have hT2 := hT.on hbel
  have hr2 := hr.below hbel
  clear ho1' hr1 hb1 hS1 hmk
  go_wp2_with (go_at_call 12; refine (More.sum_any A l.length c l w2 hT2 hr2).mono ?_; rintro e w' ⟨rfl, rfl⟩)
  obtain ⟨S, hS⟩ : ∃ S, S = Crc.sum l := ⟨_, rfl⟩
  have hS0 : sumP l = tn S := by rw [hS]; rfl
  rw [hS0]
  have hS' := Lib.hid hS
  have hI := Lib.hid (And.intro hown hbel)
  clear hS hS0 hown hbel hr2
  go_loopg [3, 4, 13] 4 (fun k sa sb sc wr => ∃ i : Nat, i + k = 4 ∧ sc = .int .i64 (i : Int) ∧ ∃ (X : W) (L : List UInt8), Hid (X = S >>> (8 * i)) ∧ sb = .int .i64 (tn X) ∧ Hid (L = l ++ (tail S).take i) ∧ L.length = l.length + i ∧ Hid (wr.ownsRow w.heap.size 5 1 sa L.length (encs eb L) ∧ Below w.heap.size w wr))
  case atStart => exact ⟨0, by omega, rfl, S, l, by simp [Hid], rfl, by simp [Hid], by omega, hI⟩
  case round =>
    clear hI
    obtain ⟨i, hik, rfl, X, L, hX, rfl, hL, hLl, hJ⟩ := hrel
    have hx0 := (tn_range X).1
    by_cases hi : i < 4
    · have hmod := low_mod X
      have hdiv := shr_div X
      obtain ⟨b, hb⟩ : ∃ b, Sha.low X = b := ⟨_, rfl⟩
      obtain ⟨Y, hY⟩ : ∃ Y, X >>> 8 = Y := ⟨_, rfl⟩
      rw [hb] at hmod
      rw [hY] at hdiv
      have hYn : Hid (Y = S >>> (8 * (i + 1))) := by
        show Y = _
        rw [← hY, hX.out, ← BitVec.shiftRight_add]
        rfl
      have hLn : Hid (L ++ [b] = l ++ (tail S).take (i + 1)) := by
        show _ = _
        rw [tail_take S i hi, hL.out, ← hb, hX.out, low_eq, List.append_assoc]
      have hLb : L.length ≤ 140737488351240 := by omega
      have hLl' := Lib.hid hLl
      have hHO := Lib.hid hJ.out.1
      have hHB := Lib.hid hJ.out.2
      have hq : wrap64 ((tn X).tdiv 256) = tn Y := by rw [quo256, hY]
      have hq' := Lib.hid hq
      clear hY hLl hJ hq
      go_wp2_with (at_builtin; (with_reducible refine append_one (w0 := w) (o := ⟨some 19, _, _, _, _, _⟩) eb w.heap.size ?q3x0 (.tmp 15) (.tmp 18) 22 5 (.int .u8 0) 1 ?q3x1 Tryd.underlying22 info5 ?q3x2 ?q3x3 _ L b _ ?q3x10 ?q3x4 ?q3x5 ?q3x6 hHO.out hHB.out ?q3x7 ?q3x8 ?q3x9); (case q3x0 => rfl); (case q3x1 => rfl); (case q3x2 => rfl); (case q3x3 => omega); (case q3x4 => rfl); (case q3x5 => rfl); (case q3x6 => rfl); (case q3x7 => exact hHB.out.size); (case q3x8 => omega); (case q3x10 => rfl); intro v3 w3 hown3 hbel3 _ _)
      have hK := Lib.hid (And.intro hown3 hbel3)
      clear hown3 hbel3 hHO hHB
      go_wp2_with fail
      go_roundg (gk - 1)
      case measure => omega
      case rel => exact ⟨i + 1, by omega, by simp, Y, L ++ [b], hYn, by first | rfl | rw [hq'.out] | exact congrArg _ hdiv, hLn, by rw [List.length_append, hLl'.out]; rfl, hK⟩
    · obtain rfl : i = 4 := by omega
      have hfr : L = frame l := by
        rw [hL.out, frame, hS'.out]
        rfl
      rw [hfr] at hJ
      have hfin := hJ
      clear hLl hL hJ hx0
      go_wp2_with fail
      go_ret
      exact ⟨_, rfl, hfin.out.1, hfin.out.2⟩

set_option maxRecDepth 100000 in
set_option maxHeartbeats 1600000 in
theorem refframe_any (A : Option Addr) (n c : Nat) (l : List UInt8) (w : World) (hr : ReadsOf eb 0 w A n l) (hn : n ≤ 140737488351232) :
    Calls Tryd.prog 21 #[.slice A n c] w (Row (frame l) w) := by
  obtain rfl := hr.1
  go_enter Tryd.func21, Tryd.ntmps21
  go_upto_region 3 with (at_builtin; (with_reducible refine print_append_row_of (w0 := w) (o := ⟨some 8, _, _, _, _, _⟩) eb 0 w.heap.size ?q1x0 (.tmp 6) (.tmp 7) 22 5 (.int .u8 0) 1 ?q1x1 Tryd.underlying22 info5 ?q1x2 ?q1x3 ?q1x4 (.slice none 0 0) [] l A l.length c ?q1x5 ?q1x6 (own_nil _ _ _ _) hr (Below.refl _ _) ?q1x7 ?q1x8 ?q1x9); (case q1x0 => rfl); (case q1x1 => rfl); (case q1x2 => rfl); (case q1x3 => omega); (case q1x4 => exact fun _ => rfl); (case q1x5 => rfl); (case q1x6 => rfl); (case q1x7 => exact Nat.le_refl _); (case q1x8 => simp; omega); intro v2 w2 hown hbel _ _; simp only [List.nil_append] at hown)
  have hr2 := hr.below hbel
  go_wp2_with (go_at_call 16; refine (RefMore.sum_any A l.length c l w2 hr2).mono ?_; rintro e w' ⟨rfl, rfl⟩)
  obtain ⟨S, hS⟩ : ∃ S, S = Crc.sum l := ⟨_, rfl⟩
  have hS0 : sumP l = tn S := by rw [hS]; rfl
  rw [hS0]
  have hS' := Lib.hid hS
  have hI := Lib.hid (And.intro hown hbel)
  clear hS hS0 hown hbel hr2
  go_loopg [3, 4, 5] 4 (fun k sa sb sc wr => ∃ i : Nat, i + k = 4 ∧ sc = .int .i64 (i : Int) ∧ ∃ (X : W) (L : List UInt8), Hid (X = S >>> (8 * i)) ∧ sb = .int .i64 (tn X) ∧ Hid (L = l ++ (tail S).take i) ∧ L.length = l.length + i ∧ Hid (wr.ownsRow w.heap.size 5 1 sa L.length (encs eb L) ∧ Below w.heap.size w wr))
  case atStart => exact ⟨0, by omega, rfl, S, l, by simp [Hid], rfl, by simp [Hid], by omega, hI⟩
  case round =>
    clear hI
    obtain ⟨i, hik, rfl, X, L, hX, rfl, hL, hLl, hJ⟩ := hrel
    have hx0 := (tn_range X).1
    by_cases hi : i < 4
    · have hmod := low_mod X
      have hdiv := shr_div X
      obtain ⟨b, hb⟩ : ∃ b, Sha.low X = b := ⟨_, rfl⟩
      obtain ⟨Y, hY⟩ : ∃ Y, X >>> 8 = Y := ⟨_, rfl⟩
      rw [hb] at hmod
      rw [hY] at hdiv
      have hYn : Hid (Y = S >>> (8 * (i + 1))) := by
        show Y = _
        rw [← hY, hX.out, ← BitVec.shiftRight_add]
        rfl
      have hLn : Hid (L ++ [b] = l ++ (tail S).take (i + 1)) := by
        show _ = _
        rw [tail_take S i hi, hL.out, ← hb, hX.out, low_eq, List.append_assoc]
      have hLb : L.length ≤ 140737488351240 := by omega
      have hLl' := Lib.hid hLl
      have hHO := Lib.hid hJ.out.1
      have hHB := Lib.hid hJ.out.2
      have hq : wrap64 ((tn X).tdiv 256) = tn Y := by rw [quo256, hY]
      have hq' := Lib.hid hq
      clear hY hLl hJ hq
      go_wp2_with (at_builtin; (with_reducible refine append_one (w0 := w) (o := ⟨some 20, _, _, _, _, _⟩) eb w.heap.size ?q3x0 (.tmp 15) (.tmp 19) 22 5 (.int .u8 0) 1 ?q3x1 Tryd.underlying22 info5 ?q3x2 ?q3x3 _ L b _ ?q3x10 ?q3x4 ?q3x5 ?q3x6 hHO.out hHB.out ?q3x7 ?q3x8 ?q3x9); (case q3x0 => rfl); (case q3x1 => rfl); (case q3x2 => rfl); (case q3x3 => omega); (case q3x4 => rfl); (case q3x5 => rfl); (case q3x6 => rfl); (case q3x7 => exact hHB.out.size); (case q3x8 => omega); (case q3x10 => rfl); intro v3 w3 hown3 hbel3 _ _)
      have hK := Lib.hid (And.intro hown3 hbel3)
      clear hown3 hbel3 hHO hHB
      go_wp2_with fail
      go_roundg (gk - 1)
      case measure => omega
      case rel => exact ⟨i + 1, by omega, by simp, Y, L ++ [b], hYn, by first | rfl | rw [hq'.out] | exact congrArg _ hdiv, hLn, by rw [List.length_append, hLl'.out]; rfl, hK⟩
    · obtain rfl : i = 4 := by omega
      have hfr : L = frame l := by
        rw [hL.out, frame, hS'.out]
        rfl
      rw [hfr] at hJ
      have hfin := hJ
      clear hLl hL hJ hx0
      go_wp2_with fail
      go_ret
      exact ⟨_, rfl, hfin.out.1, hfin.out.2⟩
end Go.Proofs.YtcfgcbcciaeabaaDoor.Frame
