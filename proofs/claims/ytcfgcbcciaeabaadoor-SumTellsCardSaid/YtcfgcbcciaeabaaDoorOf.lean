/- matrix.of: what becomes of a number. Conditions: none. -/
import Derived.Test.YtcfgcbcciaeabaaDoorRefMore
import Derived.Test.YtcfgcbcciaeabaaDoorMat
namespace Go.Proofs.YtcfgcbcciaeabaaDoor.Of
open Go.RowKit Go.Proofs.YtcfgcbcciaeabaaDoor.Bv Go.Proofs.YtcfgcbcciaeabaaDoor.Mem
open Go.Proofs.YtcfgcbcciaeabaaDoorW.PrintWords
open Go.Proofs.YtcfgcbcciaeabaaDoor.Crc
open Go.Proofs.YtcfgcbcciaeabaaDoor.RefMore (rb rb_one rb_zero)

theorem tn_zero {x : W} (h : x = 0#32) : (tn x != 0) = false := by subst h; rfl
theorem tn_one {x : W} (h : x ≠ 0#32) : (tn x != 0) = true := by
  rw [bne_iff_ne]
  intro h2
  apply h
  apply BitVec.eq_of_toNat_eq
  unfold tn at h2
  exact Int.ofNat.inj h2
theorem and1 (x : W) : tn (x &&& 1#32) = rb x := by
  unfold tn rb
  congr 1
  rw [BitVec.toNat_and]
  exact Nat.and_one_is_mod _

theorem reads_tab {w : World} {g : Nat} {m : List W} (h : Arr w g 46 (m.map eu)) (i : Nat) (hi : i < m.length) : w.cell? ⟨g, i, none⟩ = some (eu (m.getD i 0#32)) := by
  rw [h.cell]
  simp [List.getD_eq_getElem?_getD, hi]

set_option maxRecDepth 100000 in
set_option maxHeartbeats 1600000 in
theorem of_any (m : List W) (hm : m.length = 32) (n : W) (w : World) : Calls Tryd.prog 28 #[.agg (m.map eu).toArray, .int .u32 (tn n)] w fun e w' => e = .returned (.int .u32 (tn (ofu m n 32))) ∧ Below w.heap.size w w' := by
  have hnew := Arr.new w 46 (m.map eu)
  have hbn : Below w.heap.size w (w.alloc (.cells (m.map eu).toArray 46)) := (Below.refl _ _).alloc (Nat.le_refl _) _
  have hml := Lib.hid hm
  have hnew' := Lib.hid hnew
  have hbn' := Lib.hid hbn
  clear hm hnew hbn
  go_enter Tryd.func28, Tryd.ntmps28
  go_wp2_with fail
  generalize w.alloc (.cells (m.map eu).toArray 46) = w1 at hnew' hbn' ⊢
  go_loopg [1, 5, 6] 32 (fun k s1 s5 s6 wr => ∃ i : Nat, i + k = 32 ∧ s6 = .int .i64 (i : Int) ∧ ∃ x o : W, Hid (x = n >>> i) ∧ Hid (o = ofu m n i) ∧ s1 = .int .u32 (tn x) ∧ s5 = .int .u32 (tn o) ∧ w1 = wr)
  case atStart => exact ⟨0, by omega, rfl, n, 0#32, by simp [Hid], rfl, rfl, rfl, rfl⟩
  case round =>
    obtain ⟨i, hik, rfl, x, o, hx, ho, rfl, rfl, rfl⟩ := hrel
    by_cases h0 : x = 0#32
    · have hz := tn_zero h0
      have hfin : tn o = tn (ofu m n 32) := by
        rw [ho.out, ← ofu_stop m n i (by rw [← hx.out]; exact h0) (32 - i)]
        congr 2
        omega
      have hfin' := Lib.hid hfin
      clear hfin h0
      go_wp2_with fail
      go_ret
      exact ⟨by rw [← hfin'.out]; rfl, hbn'.out⟩
    · have hz := tn_one h0
      have hi : i < 32 := by
        refine Nat.lt_of_not_le fun h => h0 ?_
        rw [hx.out]
        apply BitVec.eq_of_toNat_eq
        rw [BitVec.toNat_ushiftRight, Nat.shiftRight_eq_div_pow]
        have h1 := n.isLt
        have h2 : 2 ^ 32 ≤ 2 ^ i := Nat.pow_le_pow_right (by decide) h
        rw [Nat.div_eq_of_lt (by omega)]
        rfl
      have hbit : x.getLsbD 0 = n.getLsbD i := by rw [hx.out, BitVec.getLsbD_ushiftRight, Nat.add_zero]
      have hxn : Hid (x >>> 1 = n >>> (i + 1)) := by
        show x >>> 1 = _
        rw [hx.out, ← BitVec.shiftRight_add]
      have hand := and1 x
      have hci := reads_tab hnew'.out i (by rw [hml.out]; exact hi)
      obtain ⟨y, hy⟩ : ∃ y, x >>> 1 = y := ⟨_, rfl⟩
      have hyn : Hid (y = n >>> (i + 1)) := by
        show y = _
        rw [← hy]
        exact hxn.out
      obtain ⟨q, hq⟩ : ∃ q, q = m.getD i 0#32 := ⟨_, rfl⟩
      rw [← hq] at hci
      cases hb : x.getLsbD 0 with
      | true =>
        have h1 := rb_one hb
        obtain ⟨z, hzz⟩ : ∃ z, o ^^^ q = z := ⟨_, rfl⟩
        have hz' : Hid (z = ofu m n (i + 1)) := by
          show z = if n.getLsbD i then _ else _
          rw [← hbit, hb, if_pos rfl, ← hzz, hq, ho.out]
        rw [h1] at hand
        clear hb hbit hxn hq h1 h0
        go_wp2_with fail
        go_roundg (gk - 1)
        case measure => omega
        case rel => exact ⟨i + 1, by omega, by simp, y, z, hyn, hz', rfl, rfl, rfl⟩
      | false =>
        have h1 := rb_zero hb
        have hz' : Hid (o = ofu m n (i + 1)) := by
          show o = if n.getLsbD i then _ else _
          rw [← hbit, hb, ho.out]
          rfl
        rw [h1] at hand
        clear hb hbit hxn hq h1 h0 hci
        go_wp2_with fail
        go_roundg (gk - 1)
        case measure => omega
        case rel => exact ⟨i + 1, by omega, by simp, y, o, hyn, hz', rfl, rfl, rfl⟩
end Go.Proofs.YtcfgcbcciaeabaaDoor.Of
