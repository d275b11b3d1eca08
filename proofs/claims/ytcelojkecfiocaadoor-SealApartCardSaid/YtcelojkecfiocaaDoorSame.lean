/- seal.Same: whether two rows of bytes are the same. -/
import Derived.Test.YtcelojkecfiocaaDoorUnder
import Derived.BigQuiet
namespace Go.Proofs.YtcelojkecfiocaaDoor.Same
open Go.RowKit Go.Proofs.YtcelojkecfiocaaDoor.Bv Go.Proofs.YtcelojkecfiocaaDoor.Mem
open Go.Proofs.YtcelojkecfiocaaDoorW.PrintWords

theorem or_tb (a b : UInt8) : bits .or .u8 (tb a) (tb b) = tb (a ||| b) := by
  have h := u8_or_nat a.toNat b.toNat a.toNat_lt b.toNat_lt
  unfold tb
  rw [h, UInt8.toNat_or]
/-- What the first i bytes differ by. -/
def dif (a b : List UInt8) : Nat → UInt8
  | 0 => 0
  | i + 1 => dif a b i ||| (Sha.b8 a i ^^^ Sha.b8 b i)
theorem or_zero (a b : UInt8) : a ||| b = 0 ↔ a = 0 ∧ b = 0 := by
  rw [← UInt8.toNat_inj, ← UInt8.toNat_inj, ← UInt8.toNat_inj, UInt8.toNat_or]
  exact Nat.or_eq_zero_iff
theorem xor_zero (a b : UInt8) : a ^^^ b = 0 ↔ a = b := UInt8.xor_eq_zero_iff
theorem dif_zero (a b : List UInt8) (i : Nat) : dif a b i = 0 ↔ ∀ j, j < i → Sha.b8 a j = Sha.b8 b j := by
  induction i with
  | zero => simp [dif]
  | succ i ih =>
    rw [dif, or_zero, xor_zero, ih]
    constructor
    · rintro ⟨h1, h2⟩ j hj
      rcases Nat.lt_succ_iff_lt_or_eq.1 hj with h | rfl
      · exact h1 j h
      · exact h2
    · intro h
      exact ⟨fun j hj => h j (by omega), h i (by omega)⟩

theorem dif_all {a b : List UInt8} (h : a.length = b.length) : dif a b a.length = 0 ↔ a = b := by
  rw [dif_zero]
  constructor
  · intro h1
    apply List.ext_getElem h
    intro j h2 h3
    have := h1 j h2
    simpa [Sha.b8, List.getElem?_eq_getElem h2, List.getElem?_eq_getElem h3] using this
  · rintro rfl j _
    rfl

def Post (a b : List UInt8) (w : World) (e : Ending) (w' : World) : Prop := e = .returned (.bool (decide (a = b))) ∧ Below w.heap.size w w'

set_option maxRecDepth 100000 in
set_option maxHeartbeats 800000 in
theorem same_any (A B : Option Addr) (n m c d : Nat) (a b : List UInt8) (w : World) (ha : ReadsOf eb 0 w A n a) (hb : ReadsOf eb 0 w B m b) : Calls Tryd.prog 27 #[.slice A n c, .slice B m d] w (Post a b w) := by
  have han := ha.2.1
  have hbn := hb.2.1
  have hal := ha.1
  have hbl := hb.1
  go_enter Tryd.func27, Tryd.ntmps27
  by_cases hnm : n = m
  · subst hnm
    go_wp2_with fail
    go_loopg [5, 6, 14] n (fun k s5 s6 s14 wr => ∃ i : Nat, i + k = n ∧ s14 = .int .i64 (i : Int) ∧ s5 = .int .u8 (tb (dif a b i)) ∧ Below w.heap.size w wr)
    case atStart => exact ⟨0, by omega, rfl, rfl, Below.refl _ _⟩
    case round =>
      obtain ⟨i, hik, rfl, rfl, hB⟩ := hrel
      by_cases hi : i < n
      · have hra := ha.below hB
        have hrb := hb.below hB
        obtain ⟨aa, rfl⟩ := reads_some hra (by omega)
        obtain ⟨ab, rfl⟩ := reads_some hrb (by omega)
        have hca := reads_cell hra i hi
        have hcb := reads_cell hrb i hi
        have hx := Under.xor_tb (Sha.b8 a i) (Sha.b8 b i)
        have ho := or_tb (dif a b i) (Sha.b8 a i ^^^ Sha.b8 b i)
        have hB' := Lib.hid hB
        clear hra hrb hB
        go_wp2_with fail
        go_quiet (fail)
        go_wp2_with fail
        go_roundg (gk - 1)
        case measure => omega
        case rel => exact ⟨i + 1, by omega, by simp, rfl, below_drewN hB'.out _⟩
      · obtain rfl : i = n := by omega
        have hd := dif_all (a := a) (b := b) (by omega)
        rw [hal] at hd
        have hB' := Lib.hid hB
        clear hB
        go_wp2_with fail
        go_ret
        refine ⟨?_, hB'.out⟩
        have h0 : (tb (dif a b i) == 0) = decide (a = b) := by
          rw [Bool.eq_iff_iff, decide_eq_true_eq, ← hd, beq_iff_eq, ← UInt8.toNat_inj]
          unfold tb
          exact Int.natCast_eq_zero
        rw [← h0]
        rfl
  · have hne : a ≠ b := fun e => hnm (by rw [← hal, ← hbl, e])
    have hd : decide (a = b) = false := decide_eq_false hne
    go_wp2_with fail
    go_ret
    exact ⟨by rw [hd]; rfl, Below.refl _ _⟩
end Go.Proofs.YtcelojkecfiocaaDoor.Same
