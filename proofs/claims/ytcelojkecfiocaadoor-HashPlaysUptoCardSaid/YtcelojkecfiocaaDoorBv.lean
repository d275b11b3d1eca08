/- Words of 32 bits and bytes in a walk: how the model's integer operations read on bit vectors. No conditions. -/
import Derived.Test.YtcelojkecfiocaaDoorProg
import Derived.Test.YtcelojkecfiocaaDoorSha
import Derived.WalkKit
import Derived.Deep.QuietTactic
import Derived.BigQuiet
import Derived.Deep.LoopGhost
namespace Go.Proofs.YtcelojkecfiocaaDoor.Bv
open Go.RowKit

/-- A word's number, closed to the walk. -/
def tn (x : BitVec 32) : Int := (x.toNat : Int)
/-- A byte's number, closed to the walk. -/
def tb (c : UInt8) : Int := (c.toNat : Int)

theorem tn_range (x : BitVec 32) : 0 ≤ tn x ∧ tn x < 4294967296 := by
  unfold tn; have := x.isLt; omega
theorem tb_range (c : UInt8) : 0 ≤ tb c ∧ tb c < 256 := by
  unfold tb; have := c.toNat_lt; omega
theorem ofInt_tn (x : BitVec 32) : BitVec.ofInt 32 (tn x) = x := by
  unfold tn; simp
theorem tn_ofInt (a : Int) : tn (BitVec.ofInt 32 a) = a % 4294967296 := by
  unfold tn; rw [BitVec.toNat_ofInt]; omega
theorem wrap_tn (a : Int) : IntKind.u32.wrap a = tn (BitVec.ofInt 32 a) := by
  rw [tn_ofInt, IntKind.wrap_u32]
theorem wrap_nat (x : BitVec 32) : IntKind.u32.wrap (x.toNat : Int) = tn x := by
  rw [wrap_tn]; exact congrArg tn (ofInt_tn x)

theorem u32_bits_and (a b : Int) : Op.intBits .and .u32 a b = pure (.int .u32 (tn (BitVec.ofInt 32 a &&& BitVec.ofInt 32 b))) := by
  rw [← wrap_nat]; rfl
theorem u32_bits_or (a b : Int) : Op.intBits .or .u32 a b = pure (.int .u32 (tn (BitVec.ofInt 32 a ||| BitVec.ofInt 32 b))) := by
  rw [← wrap_nat]; rfl
theorem u32_bits_xor (a b : Int) : Op.intBits .xor .u32 a b = pure (.int .u32 (tn (BitVec.ofInt 32 a ^^^ BitVec.ofInt 32 b))) := by
  rw [← wrap_nat]; rfl
theorem u32_add (a b : Int) : Op.intArith .add .u32 a b = pure (.int .u32 (tn (BitVec.ofInt 32 a + BitVec.ofInt 32 b))) := by
  rw [← BitVec.ofInt_add, ← wrap_tn]; rfl
theorem u32_mul (a b : Int) : Op.intArith .mul .u32 a b = pure (.int .u32 (tn (BitVec.ofInt 32 a * BitVec.ofInt 32 b))) := by
  rw [← BitVec.ofInt_mul, ← wrap_tn]; rfl
theorem u32_not (a : Int) : Op.unary .xor (.int .u32 a) = pure (.int .u32 (tn (~~~ BitVec.ofInt 32 a))) := by
  show Op.intBits .xor .u32 4294967295 a = _
  rw [u32_bits_xor]
  have h : BitVec.ofInt 32 4294967295 = BitVec.allOnes 32 := by decide
  rw [h, BitVec.allOnes_xor]
theorem u32_shl (x : BitVec 32) (k : IntKind) (n : Int) (h : 0 ≤ n) : Op.shift .shl .u32 (tn x) k n = pure (.int .u32 (tn (x <<< n.toNat))) := by
  rw [shift_shl_any _ _ _ _ h, wrap_tn]
  congr 2
  have e : (2 : Int) ^ min n.toNat IntKind.u32.bits = ((2 ^ min n.toNat 32 : Nat) : Int) := by simp [IntKind.bits]
  rw [e]
  congr 1
  unfold tn
  apply BitVec.eq_of_toNat_eq
  rw [BitVec.toNat_ofInt, BitVec.toNat_shiftLeft, Nat.shiftLeft_eq]
  have e2 : ((x.toNat : Int) * ((2 ^ min n.toNat 32 : Nat) : Int)) = ((x.toNat * 2 ^ min n.toNat 32 : Nat) : Int) := by simp
  rw [e2]
  rcases Nat.le_total n.toNat 32 with h1 | h1
  · rw [Nat.min_eq_left h1]; omega
  · rw [Nat.min_eq_right h1]
    obtain ⟨m, hm⟩ : ∃ m, n.toNat = 32 + m := ⟨n.toNat - 32, by omega⟩
    rw [hm, Nat.pow_add]
    have e3 : x.toNat * (2 ^ 32 * 2 ^ m) = 2 ^ 32 * (x.toNat * 2 ^ m) := by
      rw [← Nat.mul_assoc, Nat.mul_comm x.toNat, Nat.mul_assoc]
    rw [e3, Nat.mul_mod_right]
    omega
theorem u32_shr (x : BitVec 32) (k : IntKind) (n : Int) (h : 0 ≤ n) : Op.shift .shr .u32 (tn x) k n = pure (.int .u32 (tn (x >>> n.toNat))) := by
  rw [shift_shr_any _ _ _ _ h]
  congr 2
  have e : (2 : Int) ^ min n.toNat IntKind.u32.bits = ((2 ^ min n.toNat 32 : Nat) : Int) := by simp [IntKind.bits]
  rw [e]
  unfold tn
  rw [BitVec.toNat_ushiftRight, Nat.shiftRight_eq_div_pow]
  rcases Nat.le_total n.toNat 32 with h1 | h1
  · rw [Nat.min_eq_left h1]; simp
  · rw [Nat.min_eq_right h1]
    have hx := x.isLt
    have hp : 2 ^ 32 ≤ 2 ^ n.toNat := Nat.pow_le_pow_right (by decide) h1
    rw [Nat.div_eq_of_lt (by omega : x.toNat < 2 ^ n.toNat)]
    omega

theorem conv_up (c : UInt8) : IntKind.u32.wrap (tb c) = tn (Sha.up c) := by
  rw [wrap_tn]
  congr 1
  unfold tb Sha.up
  apply BitVec.eq_of_toNat_eq
  rw [BitVec.toNat_ofInt]
  simp
  have := c.toNat_lt
  omega
theorem conv_low (x : BitVec 32) : IntKind.u8.wrap (tn x) = tb (Sha.low x) := by
  rw [IntKind.wrap_u8]
  unfold tn tb Sha.low
  rw [UInt8.toNat, BitVec.toNat_setWidth]
  omega

attribute [go_sem high] conv_up conv_low u32_bits_and u32_bits_or u32_bits_xor u32_not u32_shl u32_shr ofInt_tn
attribute [go_sem ↓ high] u32_add u32_mul

end Go.Proofs.YtcelojkecfiocaaDoor.Bv
