/- The reference's filled: bytes, filled up as the document says, in a new slice. Conditions: the bytes can be read and lie within the form's reach. -/
import Derived.Test.YtcelojkecfiocaaDoorMem
import Derived.Deep.LoopGhost
import Derived.Lib.Hide
import Derived.Outline
namespace Go.Proofs.YtcelojkecfiocaaDoor.RefFilled
open Go.RowKit Go.Proofs.YtcelojkecfiocaaDoor.Bv Go.Proofs.YtcelojkecfiocaaDoor.Mem
open Go.Proofs.YtcelojkecfiocaaDoorW.PrintWords

theorem info5 : (Tryd.prog.info? 5).map (fun i => (i.zero, i.size, i.bytes)) = some (some (.int .u8 0), 1, 1) := by kernel_rfl

theorem len_byte (m j : Nat) (hm : m ≤ 140737488353000) : (m : Int) * 8 / 2 ^ (8 * (7 - j)) % 256 = tb (Sha.len8 m (7 - j)) := by
  unfold Sha.len8 tb
  rw [Nat.mod_eq_of_lt (by omega)]
  have e2 : (m : Int) * 8 / 2 ^ (8 * (7 - j)) = ((m * 8 / 2 ^ (8 * (7 - j)) : Nat) : Int) := by simp
  rw [e2, UInt8.toNat_ofNat']
  omega

/-- What a call owns: a slice of its own that holds just these bytes. -/
structure Own (B : Nat) (w wr : World) (v : Value) (L : List UInt8) : Prop where
  below : Below B w wr
  own : wr.ownsRow B 5 1 v L.length (encs eb L)
theorem Own.drewN {B : Nat} {w wr : World} {v : Value} {L : List UInt8} (h : Own B w wr v L) (n : Nat) : Own B w (wr.drewN n) v L := ⟨below_drewN h.below n, h.own⟩
theorem Own.slice {B : Nat} {w wr : World} {v : Value} {L : List UInt8} (h : Own B w wr v L) : ∃ A c, v = .slice A L.length c := own_slice h.own

def Post (w : World) (L : List UInt8) (e : Ending) (w' : World) : Prop :=
  ∃ v, e = .returned v ∧ w'.ownsRow w.heap.size 5 1 v L.length (encs eb L) ∧ Below w.heap.size w w'

set_option maxRecDepth 100000 in
set_option maxHeartbeats 400000 in
theorem filled_any (A : Option Addr) (m c : Nat) (l : List UInt8) (w : World) (hr : ReadsOf eb 0 w A m l) (hm : m ≤ 140737488353000) :
    Calls Tryd.prog 36 #[.slice A m c] w (Post w (Sha.filled l)) := by
  have hl := Lib.hid hr.1
  have hl1 : l.length ≤ 140737488353000 := by rw [hl.out]; exact hm
  have hl2 : m ≤ l.length := by rw [hl.out]; omega
  have hl3 : l.length ≤ m := by rw [hl.out]; omega
  go_enter Tryd.func36, Tryd.ntmps36
  go_wp2_with (first | (at_builtin; (with_reducible refine print_append_row_of (w0 := w) (o := ⟨some 8, _, _, _, _, _⟩) eb 0 w.heap.size ?q1x0 (.tmp 6) (.tmp 7) 22 5 (.int .u8 0) 1 ?q1x1 Tryd.underlying22 info5 ?q1x2 ?q1x3 ?q1x4 (.slice none 0 0) [] l A m c ?q1x5 ?q1x6 (own_nil _ _ _ _) hr (Below.refl _ _) ?q1x7 ?q1x8 ?q1x9); (case q1x0 => rfl); (case q1x1 => rfl); (case q1x2 => rfl); (case q1x3 => omega); (case q1x4 => exact fun _ => rfl); (case q1x5 => rfl); (case q1x6 => rfl); (case q1x7 => exact Nat.le_refl _); (case q1x8 => simp; omega); intro v1 w1 hown hbel _ _; simp only [List.nil_append] at hown) | (at_builtin; (with_reducible refine append_one (w0 := w) (o := ⟨some 11, _, _, _, _, _⟩) eb w.heap.size ?q2x0 (.tmp 9) (.tmp 10) 22 5 (.int .u8 0) 1 ?q2x1 Tryd.underlying22 info5 ?q2x2 ?q2x3 v1 l 128 _ ?q2x10 ?q2x4 ?q2x5 ?q2x6 hown hbel ?q2x7 ?q2x8 ?q2x9); (case q2x0 => rfl); (case q2x1 => rfl); (case q2x2 => rfl); (case q2x3 => omega); (case q2x4 => rfl); (case q2x5 => rfl); (case q2x6 => rfl); (case q2x7 => exact hbel.size); (case q2x8 => omega); (case q2x10 => rfl); intro v2 w2 hown2 hbel2 _ _))
  have hJ0 : Own w.heap.size w w2 v2 (l ++ [128]) := ⟨hbel2, hown2⟩
  clear hown hbel hown2 hbel2 hr
  go_loopg [3] (Sha.zeros m) (fun k v wr => ∃ z : Nat, z + k = Sha.zeros m ∧ ∃ L : List UInt8, Hid (L = l ++ 128 :: List.replicate z 0) ∧ L.length = m + 1 + z ∧ Own w.heap.size w wr v L)
  case atStart => exact ⟨0, by omega, l ++ [128], by simp [Hid], by simp [hl.out], hJ0⟩
  case round =>
    obtain ⟨z, hz, L, hL, hlen, hJ⟩ := hrel
    have hzl := Sha.zeros_lt m
    have hzf := Sha.zeros_fit m
    have hlen' := Lib.hid hlen
    have hLl : L.length ≤ 140737488353000 + 70 := by omega
    have hLl2 : m + 1 + z ≤ L.length := by omega
    have hLl3 : L.length ≤ m + 1 + z := by omega
    obtain ⟨A1, c1, rfl⟩ := hJ.slice
    clear hlen
    by_cases hlt : 0 < gk
    · have ht : ((L.length : Int) % 64 != 56) = true := by rw [bne_iff_ne]; omega
      have hz' := Lib.hid hz
      clear hz
      go_wp2_with (at_builtin; (with_reducible refine append_one (w0 := w) (o := ⟨some 18, _, _, _, _, _⟩) eb w.heap.size ?q3x0 (.tmp 16) (.tmp 17) 22 5 (.int .u8 0) 1 ?q3x1 Tryd.underlying22 info5 ?q3x2 ?q3x3 _ L 0 _ ?q3x10 ?q3x4 ?q3x5 ?q3x6 hJ.own hJ.below ?q3x7 ?q3x8 ?q3x9); (case q3x0 => rfl); (case q3x1 => rfl); (case q3x2 => rfl); (case q3x3 => omega); (case q3x4 => rfl); (case q3x5 => rfl); (case q3x6 => rfl); (case q3x7 => exact hJ.below.size); (case q3x8 => omega); (case q3x10 => exact rfl); intro v2 w2 hown2 hbel2 _ _)
      go_roundg (gk - 1)
      case measure => omega
      case rel =>
        refine ⟨z + 1, by have := hz'.out; omega, L ++ [0], ?_, by simp [hlen'.out]; omega, hbel2, hown2⟩
        have h1 := hL.out
        show L ++ [0] = _
        rw [h1, List.replicate_succ']
        simp
    · have ht : ((L.length : Int) % 64 != 56) = false := by rw [bne_eq_false_iff_eq]; omega
      have hz' := Lib.hid (show z = Sha.zeros m by omega)
      clear hz
      have hJ1 := Lib.hid hJ
      clear hJ hzl hzf hlt hJ0
      go_wp2_with fail
      go_loopw [5, 3] (fun i v wr => ∃ j : Nat, j ≤ 8 ∧ i = .int .i64 (7 - (j : Int)) ∧ ∃ M : List UInt8, Hid (M = L ++ (Sha.lens m).take j) ∧ M.length ≤ 140737488353000 + 80 ∧ Own w.heap.size w wr v M) (fun i _ _ => (intOf i + 1).toNat)
      case atStart => exact ⟨0, by omega, rfl, L, by simp [Hid], by omega, hJ1.out⟩
      case round =>
        obtain ⟨j, hj, rfl, M, hM, hMl, hJ⟩ := hrel
        obtain ⟨A2, c2, rfl⟩ := hJ.slice
        by_cases hlj : j < 8
        · have hsh := Lib.hid (len_byte m j hm)
          have hML : M.length ≤ 140737488353000 + 71 + j := by
            have h1 := hM.out
            rw [h1]; simp [hlen'.out]; omega
          go_wp2_with (at_builtin; (with_reducible refine append_one (w0 := w) (o := ⟨some 35, _, _, _, _, _⟩) eb w.heap.size ?q4x0 (.tmp 27) (.tmp 34) 22 5 (.int .u8 0) 1 ?q4x1 Tryd.underlying22 info5 ?q4x2 ?q4x3 _ M (Sha.len8 m (7 - j)) _ ?q4x10 ?q4x4 ?q4x5 ?q4x6 hJ.own hJ.below ?q4x7 ?q4x8 ?q4x9); (case q4x0 => rfl); (case q4x1 => rfl); (case q4x2 => rfl); (case q4x3 => omega); (case q4x4 => rfl); (case q4x5 => rfl); (case q4x6 => rfl); (case q4x7 => exact hJ.below.size); (case q4x8 => omega); (case q4x10 => exact congrArg (Value.int .u8) hsh.out); intro v2 w2 hown2 hbel2 _ _)
          refine ⟨⟨j + 1, by omega, by go_num, M ++ [Sha.len8 m (7 - j)], ?_, by simp; omega, hbel2, hown2⟩, by simp [intOf]; omega⟩
          have h1 := hM.out
          show M ++ [Sha.len8 m (7 - j)] = _
          rw [h1, List.append_assoc]
          congr 1
          have h2 : j = 0 ∨ j = 1 ∨ j = 2 ∨ j = 3 ∨ j = 4 ∨ j = 5 ∨ j = 6 ∨ j = 7 := by omega
          rcases h2 with rfl | rfl | rfl | rfl | rfl | rfl | rfl | rfl <;> rfl
        · have hj8 := Lib.hid (show j = 8 by omega)
          go_wp2_with fail
          go_ret
          refine ⟨_, rfl, ?_, hJ.below⟩
          have h1 : M = Sha.filled l := by
            rw [hM.out, hL.out, hz'.out, hj8.out]
            unfold Sha.filled Sha.pad
            rw [hl.out, List.append_assoc]
            rfl
          have h2 := hJ.own
          rw [h1] at h2 ⊢
          exact h2
end Go.Proofs.YtcelojkecfiocaaDoor.RefFilled
