/- Four bytes by sums and products, as by shifts. Plain; no conditions. -/
import Derived.Test.YtcelojkecfiocaaDoorSha
namespace Go.Proofs.YtcelojkecfiocaaDoor.Sha

theorem up_toNat (c : UInt8) : (up c).toNat = c.toNat := by
  unfold up
  rw [BitVec.toNat_setWidth]
  have := c.toNat_lt
  exact Nat.mod_eq_of_lt (by rw [UInt8.toNat_toBitVec]; omega)
theorem or_up (x : U) (c : UInt8) (hx : x.toNat < 16777216) : (x <<< 8 ||| up c).toNat = x.toNat * 256 + c.toNat := by
  have hc := c.toNat_lt
  rw [BitVec.toNat_or, up_toNat, BitVec.toNat_shiftLeft, Nat.shiftLeft_eq, Nat.mod_eq_of_lt (by omega)]
  have := Nat.shiftLeft_add_eq_or_of_lt (i := 8) (b := c.toNat) (by omega) x.toNat
  rw [Nat.shiftLeft_eq] at this
  omega
theorem mul_toNat (x : U) (k m : Nat) (hx : x.toNat < k) (hm : k * m ≤ 4294967296) : (x * BitVec.ofNat 32 m).toNat = x.toNat * m := by
  rw [BitVec.toNat_mul, BitVec.toNat_ofNat]
  rcases Nat.eq_zero_or_pos m with rfl | hm0
  · simp
  have h1 : x.toNat * m < k * m := Nat.mul_lt_mul_of_pos_right hx hm0
  rcases Nat.lt_or_ge m 4294967296 with h2 | h2
  · rw [Nat.mod_eq_of_lt (show m < 2 ^ 32 from h2), Nat.mod_eq_of_lt (show x.toNat * m < 2 ^ 32 from Nat.lt_of_lt_of_le h1 hm)]
  · have h3 : k ≤ 1 := by
      rcases Nat.lt_or_ge 1 k with h4 | h4
      · have := Nat.mul_le_mul h4 h2; omega
      · exact h4
    have h5 : x.toNat = 0 := by omega
    rw [h5]; simp
theorem add_toNat (x y : U) (h : x.toNat + y.toNat < 4294967296) : (x + y).toNat = x.toNat + y.toNat := by
  rw [BitVec.toNat_add]
  exact Nat.mod_eq_of_lt h
theorem word_mul (a b c d : UInt8) : up a * 16777216 + up b * 65536 + up c * 256 + up d = ((up a <<< 8 ||| up b) <<< 8 ||| up c) <<< 8 ||| up d := by
  have ha := a.toNat_lt
  have hb := b.toNat_lt
  have hc := c.toNat_lt
  have hd := d.toNat_lt
  have h1 := or_up (up a) b (by rw [up_toNat]; omega)
  rw [up_toNat] at h1
  have h2 := or_up (up a <<< 8 ||| up b) c (by omega)
  rw [h1] at h2
  have h3 := or_up ((up a <<< 8 ||| up b) <<< 8 ||| up c) d (by omega)
  rw [h2] at h3
  have m1 := mul_toNat (up a) 256 16777216 (by rw [up_toNat]; omega) (by omega)
  have m2 := mul_toNat (up b) 256 65536 (by rw [up_toNat]; omega) (by omega)
  have m3 := mul_toNat (up c) 256 256 (by rw [up_toNat]; omega) (by omega)
  rw [up_toNat] at m1 m2 m3
  have s1 := add_toNat (up a * BitVec.ofNat 32 16777216) (up b * BitVec.ofNat 32 65536) (by rw [m1, m2]; omega)
  rw [m1, m2] at s1
  have s2 := add_toNat (up a * BitVec.ofNat 32 16777216 + up b * BitVec.ofNat 32 65536) (up c * BitVec.ofNat 32 256) (by rw [s1, m3]; omega)
  rw [s1, m3] at s2
  have s3 := add_toNat (up a * BitVec.ofNat 32 16777216 + up b * BitVec.ofNat 32 65536 + up c * BitVec.ofNat 32 256) (up d) (by rw [s2, up_toNat]; omega)
  rw [s2, up_toNat] at s3
  exact BitVec.eq_of_toNat_eq (by rw [h3]; exact s3.trans (by omega))
end Go.Proofs.YtcelojkecfiocaaDoor.Sha
