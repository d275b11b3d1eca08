/- sum.may, sum.More, sum.Sum: the sum of bytes behind a sum. Conditions: the bytes can be read; the table holds its constants. -/
import Derived.Test.YtcfgcbcciaeabaaDoorStr
import Derived.Test.YtcfgcbcciaeabaaDoorCrc
namespace Go.Proofs.YtcfgcbcciaeabaaDoor.More
open Go.RowKit Go.Proofs.YtcfgcbcciaeabaaDoor.Bv Go.Proofs.YtcfgcbcciaeabaaDoor.Mem
open Go.Proofs.YtcfgcbcciaeabaaDoorW.PrintWords
open Go.Proofs.YtcfgcbcciaeabaaDoor.Crc

/-- The table stands in its block. -/
structure Tab (w : World) : Prop where
  nib : ∃ t fr, w.heap[0]? = some (.cells (nibs.map eu).toArray t fr)
  size : 1 ≤ w.heap.size
theorem Tab.heap {w w' : World} (h : Tab w) (hb : w'.heap[0]? = w.heap[0]?) (hs : w.heap.size ≤ w'.heap.size) : Tab w' := ⟨by rw [hb]; exact h.nib, Nat.le_trans h.size hs⟩
theorem Tab.below {w w' : World} {B : Nat} (h : Tab w) (hb : Below B w w') (hB : 1 ≤ B) : Tab w' := h.heap (hb.block 0 (by omega)) hb.size
theorem Tab.on {w w' : World} (h : Tab w) (hb : Below w.heap.size w w') : Tab w' := h.below hb h.size
theorem Tab.cell {w : World} (h : Tab w) (k : Nat) (hk : k < 16) : w.cell? ⟨0, k, none⟩ = some (eu (Crc.nib k)) := by
  obtain ⟨t, fr, hh⟩ := h.nib
  rw [cell_of_row w 0 k _ t fr hh]
  have hl : nibs.length = 16 := rfl
  simp [Crc.nib, List.getElem?_eq_getElem (show k < nibs.length by omega)]

theorem up_bw (c : UInt8) : Sha.up c = bw c := by
  apply BitVec.eq_of_toNat_eq
  unfold Sha.up bw
  rw [BitVec.toNat_setWidth, BitVec.toNat_ofNat]
  rfl
theorem and15 (x : W) : ∃ k : Nat, k < 16 ∧ tn (x &&& 15#32) = (k : Int) ∧ (x >>> 4) ^^^ Crc.nib k = turns x 4 := by
  refine ⟨(x &&& 15#32).toNat, ?_, rfl, four x⟩
  rw [BitVec.toNat_and]
  exact Nat.lt_of_le_of_lt Nat.and_le_right (by decide)

theorem wrap64_tn (x : W) : wrap64 (tn x) = tn x := by
  have := tn_range x
  unfold wrap64
  omega
/-- Is it a sum? -/
def mayB (s : Int) : Bool := decide (0 ≤ s ∧ s ≤ 4294967295)
def moreP (s : Int) (l : List UInt8) : Int × Int := if 0 ≤ s ∧ s ≤ 4294967295 then (tn (more (BitVec.ofInt 32 s) l), 0) else (0, 1)

theorem may_any (s : Int) (w : World) : Calls Tryd.prog 24 #[.int .i64 s] w fun e w' => e = .returned (.bool (mayB s)) ∧ w = w' := by
  by_cases h0 : 0 ≤ s
  · by_cases h1 : s ≤ 4294967295
    · have hm : mayB s = true := decide_eq_true ⟨h0, h1⟩
      rw [hm]
      go_enter Tryd.func24, Tryd.ntmps24
      go_wp2_with fail
      go_ret
      exact ⟨by first | rfl | (simp; omega), rfl⟩
    · have hm : mayB s = false := decide_eq_false (by omega)
      rw [hm]
      go_enter Tryd.func24, Tryd.ntmps24
      go_wp2_with fail
      go_ret
      exact ⟨by first | rfl | (simp; omega), rfl⟩
  · have hm : mayB s = false := decide_eq_false (by omega)
    rw [hm]
    go_enter Tryd.func24, Tryd.ntmps24
    go_wp2_with fail
    go_ret
    exact ⟨by first | rfl | (simp; omega), rfl⟩

theorem b8_take (l : List UInt8) (i : Nat) (h : i < l.length) (r : W) : run r (l.take (i + 1)) = eight (run r (l.take i) ^^^ bw (Sha.b8 l i)) := by
  rw [List.take_succ_eq_append_getElem h, run_append]
  simp [Sha.b8, h, run]
  rfl

set_option maxRecDepth 100000 in
set_option maxHeartbeats 800000 in
theorem more_any (s : Int) (A : Option Addr) (n c : Nat) (l : List UInt8) (w : World) (hT : Tab w) (hr : ReadsOf eb 0 w A n l) :
    Calls Tryd.prog 13 #[.int .i64 s, .slice A n c] w fun e w' => e = .returned (.tuple #[.int .i64 (moreP s l).1, .int .i64 (moreP s l).2]) ∧ w = w' := by
  have hn := hr.2.1
  have hl := Lib.hid hr.1
  go_enter Tryd.func13, Tryd.ntmps13
  go_wp2_with fail
  refine (may_any s w).mono ?_
  rintro e w' ⟨rfl, rfl⟩
  by_cases hs : 0 ≤ s ∧ s ≤ 4294967295
  · have hm : mayB s = true := decide_eq_true hs
    have hp := Lib.hid (show moreP s l = (tn (more (BitVec.ofInt 32 s) l), 0) by rw [moreP, if_pos hs])
    obtain ⟨S, hS⟩ : ∃ S, S = BitVec.ofInt 32 s := ⟨_, rfl⟩
    have hw : IntKind.u32.wrap s = tn S := by rw [wrap_tn, hS]
    rw [hm]
    have hS' := Lib.hid hS
    clear hm hs hS
    go_wp2_with fail
    clear hw
    obtain ⟨r0, hr0⟩ : ∃ r0, r0 = ~~~ S := ⟨_, rfl⟩
    rw [← hr0]
    have hr0' := Lib.hid hr0
    clear hr0
    go_loopg [6, 8, 17] n (fun k s6 s8 s17 wr => ∃ i : Nat, i + k = n ∧ s17 = .int .i64 (i : Int) ∧ ∃ R : W, Hid (R = run r0 (l.take i)) ∧ s6 = .int .u32 (tn R) ∧ w = wr)
    case atStart => exact ⟨0, by omega, rfl, r0, rfl, rfl, rfl⟩
    case round =>
      obtain ⟨i, hik, rfl, R, hR, rfl, rfl⟩ := hrel
      by_cases hi : i < n
      · obtain ⟨a, rfl⟩ := reads_some hr (by omega)
        have hc := reads_cell hr i hi
        obtain ⟨b, hb⟩ : ∃ b, b = Sha.b8 l i := ⟨_, rfl⟩
        rw [← hb] at hc
        obtain ⟨x, hx⟩ : ∃ x, R ^^^ Sha.up b = x := ⟨_, rfl⟩
        obtain ⟨k1, hk1, ht1, hf1⟩ := and15 x
        obtain ⟨y, hy⟩ : ∃ y, turns x 4 = y := ⟨_, rfl⟩
        rw [hy] at hf1
        obtain ⟨k2, hk2, ht2, hf2⟩ := and15 y
        obtain ⟨z, hz⟩ : ∃ z, turns y 4 = z := ⟨_, rfl⟩
        rw [hz] at hf2
        have hc1 := hT.cell k1 hk1
        have hc2 := hT.cell k2 hk2
        have hnext : z = run r0 (l.take (i + 1)) := by
          rw [b8_take l i (by have := hl.out; omega), ← hR.out, ← hb, ← up_bw, hx, ← hz, ← hy]
          rfl
        have hnext' := Lib.hid hnext
        clear hnext hy hz hb
        go_wp2_with fail
        go_roundg (gk - 1)
        case measure => omega
        case rel => exact ⟨i + 1, by omega, by simp, z, hnext', rfl, rfl⟩
      · obtain rfl : i = n := by omega
        have hfin : tn (~~~ R) = tn (more S l) := by
          rw [hR.out, List.take_of_length_le (by have := hl.out; omega), hr0'.out]
          rfl
        have hfin' := Lib.hid hfin
        clear hfin
        go_wp2_with fail
        go_ret2
        rw [hp.out, ← hS'.out, ← hfin'.out]
        refine ⟨?_, rfl⟩
        show Ending.returned (.tuple #[.int .i64 (wrap64 (tn (~~~ R))), .int .i64 0]) = _
        rw [wrap64_tn]
  · have hm : mayB s = false := decide_eq_false hs
    have hp := Lib.hid (show moreP s l = (0, 1) by rw [moreP, if_neg hs])
    rw [hm]
    go_wp2_with fail
    go_ret2
    rw [hp.out]
    exact ⟨rfl, rfl⟩
/-- The sum of bytes. -/
def sumP (l : List UInt8) : Int := tn (sum l)
theorem more_zero (l : List UInt8) : moreP 0 l = (sumP l, 0) := by
  rw [moreP, if_pos (by omega)]
  rfl
theorem sum_any (A : Option Addr) (n c : Nat) (l : List UInt8) (w : World) (hT : Tab w) (hr : ReadsOf eb 0 w A n l) :
    Calls Tryd.prog 12 #[.slice A n c] w fun e w' => e = .returned (.int .i64 (sumP l)) ∧ w = w' := by
  have hm := more_any 0 A n c l w hT hr
  rw [more_zero] at hm
  have hm' := Lib.hid hm
  clear hm
  go_enter Tryd.func12, Tryd.ntmps12
  go_wp2_with fail
  refine hm'.out.mono ?_
  rintro e w' ⟨rfl, rfl⟩
  go_wp2_with fail
  go_ret
  exact ⟨rfl, rfl⟩
end Go.Proofs.YtcfgcbcciaeabaaDoor.More
