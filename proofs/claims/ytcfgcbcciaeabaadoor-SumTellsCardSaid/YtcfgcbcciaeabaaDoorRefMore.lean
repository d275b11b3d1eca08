/- The reference's May, turns, More and Sum. Conditions: the bytes can be read. -/
import Derived.Test.YtcfgcbcciaeabaaDoorMore
namespace Go.Proofs.YtcfgcbcciaeabaaDoor.RefMore
open Go.RowKit Go.Proofs.YtcfgcbcciaeabaaDoor.Bv Go.Proofs.YtcfgcbcciaeabaaDoor.Mem
open Go.Proofs.YtcfgcbcciaeabaaDoorW.PrintWords
open Go.Proofs.YtcfgcbcciaeabaaDoor.Crc
open Go.Proofs.YtcfgcbcciaeabaaDoor.More (mayB moreP sumP more_zero up_bw b8_take wrap64_tn)

theorem quo_shr (x : BitVec 32) (k : Nat) : Op.intDiv .quo .u32 (tn x) ((2 ^ k : Nat) : Int) = pure (.int .u32 (tn (x >>> k))) := by
  have hp : ((2 ^ k : Nat) : Int) ≠ 0 := by have := Nat.two_pow_pos k; omega
  unfold Op.intDiv
  rw [if_neg hp]
  show (pure (Value.int .u32 (IntKind.u32.wrap ((tn x).tdiv ((2 ^ k : Nat) : Int)))) : Sem Value) = _
  congr 2
  unfold tn
  rw [BitVec.toNat_ushiftRight, Nat.shiftRight_eq_div_pow]
  have e : ((x.toNat : Int)).tdiv ((2 ^ k : Nat) : Int) = ((x.toNat / 2 ^ k : Nat) : Int) := rfl
  rw [e]
  have h1 := x.isLt
  have h2 := Nat.div_le_self x.toNat (2 ^ k)
  generalize x.toNat / 2 ^ k = q at h2 ⊢
  exact IntWalk.u32_in _ (by omega)
theorem quo2 (x : BitVec 32) : Op.intDiv .quo .u32 (tn x) 2 = pure (.int .u32 (tn (x >>> 1))) := quo_shr x 1
/-- A number's lowest bit. -/
def rb (x : BitVec 32) : Int := ((x.toNat % 2 : Nat) : Int)
theorem rem2 (x : BitVec 32) : Op.intDiv .rem .u32 (tn x) 2 = pure (.int .u32 (rb x)) := by
  unfold Op.intDiv
  rw [if_neg (by decide)]
  rfl
theorem rb_one {x : BitVec 32} (h : x.getLsbD 0 = true) : rb x = 1 := by
  unfold rb
  rw [BitVec.getLsbD, Nat.testBit_zero, decide_eq_true_eq] at h
  rw [h]
  rfl
theorem rb_zero {x : BitVec 32} (h : x.getLsbD 0 = false) : rb x = 0 := by
  unfold rb
  rw [BitVec.getLsbD, Nat.testBit_zero, decide_eq_false_iff_not] at h
  have : x.toNat % 2 = 0 := by omega
  rw [this]
  rfl
attribute [go_sem ↓ high] quo2 rem2

theorem may_any (s : Int) (w : World) : Calls Tryd.prog 25 #[.int .i64 s] w fun e w' => e = .returned (.bool (mayB s)) ∧ w = w' := by
  by_cases h0 : 0 ≤ s
  · by_cases h1 : s ≤ 4294967295
    · have hm : mayB s = true := decide_eq_true ⟨h0, h1⟩
      rw [hm]
      go_enter Tryd.func25, Tryd.ntmps25
      go_wp2_with fail
      go_ret
      exact ⟨by first | rfl | (simp; omega), rfl⟩
    · have hm : mayB s = false := decide_eq_false (by omega)
      rw [hm]
      go_enter Tryd.func25, Tryd.ntmps25
      go_wp2_with fail
      go_ret
      exact ⟨by first | rfl | (simp; omega), rfl⟩
  · have hm : mayB s = false := decide_eq_false (by omega)
    rw [hm]
    go_enter Tryd.func25, Tryd.ntmps25
    go_wp2_with fail
    go_ret
    exact ⟨by first | rfl | (simp; omega), rfl⟩

theorem turns_one (x : W) (i : Nat) : turns x (i + 1) = turn (turns x i) := by rw [turns_add]; rfl

set_option maxHeartbeats 800000 in
theorem turns_any (x : W) (n : Nat) (hn : n ≤ 1000) (w : World) : Calls Tryd.prog 26 #[.int .u32 (tn x), .int .i64 (n : Int)] w fun e w' => e = .returned (.int .u32 (tn (turns x n))) ∧ w = w' := by
  go_enter Tryd.func26, Tryd.ntmps26
  go_wp2_with fail
  go_loopg [0, 5] n (fun k s0 s5 wr => ∃ i : Nat, i + k = n ∧ s5 = .int .i64 (i : Int) ∧ ∃ R : W, Hid (R = turns x i) ∧ s0 = .int .u32 (tn R) ∧ w = wr)
  case atStart => exact ⟨0, by omega, rfl, x, rfl, rfl, rfl⟩
  case round =>
    obtain ⟨i, hik, rfl, R, hR, rfl, rfl⟩ := hrel
    by_cases hi : i < n
    · have hnx : Hid (turn R = turns x (i + 1)) := by
        show turn R = _
        rw [turns_one, hR.out]
      cases hb : R.getLsbD 0 with
      | true =>
        have h1 := rb_one hb
        obtain ⟨z, hz⟩ : ∃ z, R >>> 1 ^^^ 2197175160#32 = z := ⟨_, rfl⟩
        have hz' : Hid (z = turns x (i + 1)) := by
          rw [← hnx.out, ← hz]
          show _ = turn R
          unfold turn
          rw [hb]
          rfl
        clear hb
        go_wp2_with fail
        go_roundg (gk - 1)
        case measure => omega
        case rel => exact ⟨i + 1, by omega, by simp, z, hz', rfl, rfl⟩
      | false =>
        have h1 := rb_zero hb
        obtain ⟨z, hz⟩ : ∃ z, R >>> 1 = z := ⟨_, rfl⟩
        have hz' : Hid (z = turns x (i + 1)) := by
          rw [← hnx.out, ← hz]
          show _ = turn R
          unfold turn
          rw [hb]
          rfl
        clear hb
        go_wp2_with fail
        go_roundg (gk - 1)
        case measure => omega
        case rel => exact ⟨i + 1, by omega, by simp, z, hz', rfl, rfl⟩
    · obtain rfl : i = n := by omega
      go_wp2_with fail
      go_ret
      rw [← hR.out]
      exact ⟨rfl, rfl⟩

set_option maxRecDepth 100000 in
set_option maxHeartbeats 800000 in
theorem more_any (s : Int) (A : Option Addr) (n c : Nat) (l : List UInt8) (w : World) (hr : ReadsOf eb 0 w A n l) :
    Calls Tryd.prog 15 #[.int .i64 s, .slice A n c] w fun e w' => e = .returned (.tuple #[.int .i64 (moreP s l).1, .int .i64 (moreP s l).2]) ∧ w = w' := by
  have hn := hr.2.1
  have hl := Lib.hid hr.1
  go_enter Tryd.func15, Tryd.ntmps15
  go_wp2_with fail
  refine (may_any s w).mono ?_
  rintro e w' ⟨rfl, rfl⟩
  by_cases hs : 0 ≤ s ∧ s ≤ 4294967295
  · have hm : mayB s = true := decide_eq_true hs
    have hp := Lib.hid (show moreP s l = (tn (more (BitVec.ofInt 32 s) l), 0) by rw [moreP, if_pos hs])
    obtain ⟨S, hS⟩ : ∃ S, S = BitVec.ofInt 32 s := ⟨_, rfl⟩
    have hw : IntKind.u32.wrap s = tn S := by rw [wrap_tn, hS]
    obtain ⟨r0, hr0⟩ : ∃ r0, S ^^^ 4294967295#32 = r0 := ⟨_, rfl⟩
    have hr0' : Hid (r0 = ~~~ S) := by
      show r0 = ~~~ S
      rw [← hr0, ← BitVec.allOnes_xor, BitVec.xor_comm]
      rfl
    rw [hm]
    have hS' := Lib.hid hS
    clear hm hs hS
    go_wp2_with fail
    clear hw hr0
    go_loopg [7, 8] n (fun k s7 s8 wr => ∃ i : Nat, i + k = n ∧ s8 = .int .i64 (i : Int) ∧ ∃ R : W, Hid (R = run r0 (l.take i)) ∧ s7 = .int .u32 (tn R) ∧ w = wr)
    case atStart => exact ⟨0, by omega, rfl, r0, rfl, rfl, rfl⟩
    case round =>
      obtain ⟨i, hik, rfl, R, hR, rfl, rfl⟩ := hrel
      by_cases hi : i < n
      · obtain ⟨a, rfl⟩ := reads_some hr (by omega)
        have hc := reads_cell hr i hi
        obtain ⟨b, hb⟩ : ∃ b, b = Sha.b8 l i := ⟨_, rfl⟩
        rw [← hb] at hc
        obtain ⟨x, hx⟩ : ∃ x, R ^^^ Sha.up b = x := ⟨_, rfl⟩
        have hnext : turns x 8 = run r0 (l.take (i + 1)) := by
          rw [b8_take l i (by have := hl.out; omega), ← hR.out, ← hb, ← up_bw, hx]
          rfl
        obtain ⟨z, hz⟩ : ∃ z, z = turns x 8 := ⟨_, rfl⟩
        rw [← hz] at hnext
        have hnext' := Lib.hid hnext
        have ht := turns_any x 8 (by omega) w
        rw [← hz] at ht
        have ht' := Lib.hid ht
        clear hnext hb ht hz
        go_wp2_with fail
        refine ht'.out.mono ?_
        rintro e w' ⟨rfl, rfl⟩
        go_wp2_with fail
        go_roundg (gk - 1)
        case measure => omega
        case rel => exact ⟨i + 1, by omega, by simp, z, hnext', rfl, rfl⟩
      · obtain rfl : i = n := by omega
        obtain ⟨z, hz⟩ : ∃ z, R ^^^ 4294967295#32 = z := ⟨_, rfl⟩
        have hfin : tn z = tn (more S l) := by
          have e : z = ~~~ R := by
            rw [← hz, ← BitVec.allOnes_xor, BitVec.xor_comm]
            rfl
          rw [e, hR.out, List.take_of_length_le (by have := hl.out; omega), hr0'.out]
          rfl
        have hfin' := Lib.hid hfin
        clear hfin
        go_wp2_with fail
        go_ret2
        rw [hp.out, ← hS'.out, ← hfin'.out]
        refine ⟨?_, rfl⟩
        show Ending.returned (.tuple #[.int .i64 (wrap64 (tn z)), .int .i64 0]) = _
        rw [wrap64_tn]
  · have hm : mayB s = false := decide_eq_false hs
    have hp := Lib.hid (show moreP s l = (0, 1) by rw [moreP, if_neg hs])
    rw [hm]
    go_wp2_with fail
    go_ret2
    rw [hp.out]
    exact ⟨rfl, rfl⟩

theorem sum_any (A : Option Addr) (n c : Nat) (l : List UInt8) (w : World) (hr : ReadsOf eb 0 w A n l) :
    Calls Tryd.prog 16 #[.slice A n c] w fun e w' => e = .returned (.int .i64 (sumP l)) ∧ w = w' := by
  have hm := more_any 0 A n c l w hr
  rw [more_zero] at hm
  have hm' := Lib.hid hm
  clear hm
  go_enter Tryd.func16, Tryd.ntmps16
  go_wp2_with fail
  refine hm'.out.mono ?_
  rintro e w' ⟨rfl, rfl⟩
  go_wp2_with fail
  go_ret
  exact ⟨rfl, rfl⟩
end Go.Proofs.YtcfgcbcciaeabaaDoor.RefMore
