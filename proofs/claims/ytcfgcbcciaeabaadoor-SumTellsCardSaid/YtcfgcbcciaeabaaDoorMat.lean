/- Matrices of bits in plain words: what becomes of each bit. No conditions. -/
import Derived.Test.YtcfgcbcciaeabaaDoorCrc
namespace Go.Proofs.YtcfgcbcciaeabaaDoor.Crc

/-- What a row of what becomes of each bit makes of a number's first bits. -/
def ofu (m : List W) (n : W) : Nat → W
  | 0 => 0#32
  | i + 1 => if n.getLsbD i then ofu m n i ^^^ m.getD i 0#32 else ofu m n i
/-- The row of what f makes of each bit. -/
def mat (f : W → W) : List W := (List.range 32).map fun i => f (1#32 <<< i)
theorem mat_length (f : W → W) : (mat f).length = 32 := by simp [mat]
theorem mat_get (f : W → W) (i : Nat) (h : i < 32) : (mat f).getD i 0#32 = f (1#32 <<< i) := by
  simp [mat, List.getD_eq_getElem?_getD, h]
/-- A number's first bits. -/
def lowb (n : W) : Nat → W
  | 0 => 0#32
  | i + 1 => if n.getLsbD i then lowb n i ^^^ (1#32 <<< i) else lowb n i
theorem lowb_bit (n : W) (i : Nat) (hi : i ≤ 32) (j : Nat) : (lowb n i).getLsbD j = (decide (j < i) && n.getLsbD j) := by
  induction i with
  | zero => simp [lowb]
  | succ i ih =>
    have ih := ih (by omega)
    have e1 : (1#32 <<< i).getLsbD j = decide (j = i) := by
      rw [BitVec.getLsbD_shiftLeft, BitVec.getLsbD_one]
      by_cases h : j = i
      · subst h; simp; omega
      · have : ¬ (j - i = 0 ∧ ¬ j < i) := by omega
        simp [h]
        omega
    unfold lowb
    cases hb : n.getLsbD i with
    | true =>
      rw [if_pos rfl, BitVec.getLsbD_xor, ih, e1]
      rcases Nat.lt_trichotomy j i with h | h | h
      · simp [h, Nat.lt_succ_of_lt h, Nat.ne_of_lt h]
      · subst h; simp [hb]
      · have h1 : ¬ j < i := by omega
        have h2 : ¬ j < i + 1 := by omega
        have h3 : ¬ j = i := by omega
        simp [h1, h2, h3]
    | false =>
      simp only [Bool.false_eq_true, if_false]
      rw [ih]
      rcases Nat.lt_trichotomy j i with h | h | h
      · simp [h, Nat.lt_succ_of_lt h]
      · subst h; simp [hb]
      · have h1 : ¬ j < i := by omega
        have h2 : ¬ j < i + 1 := by omega
        simp [h1, h2]
theorem lowb_all (n : W) : lowb n 32 = n := by
  apply BitVec.eq_of_getLsbD_eq
  intro j hj
  rw [lowb_bit n 32 (by omega)]
  simp [hj]
theorem ofu_low {f : W → W} (hf : Lin f) (n : W) (i : Nat) (hi : i ≤ 32) : ofu (mat f) n i = f (lowb n i) := by
  induction i with
  | zero => exact hf.zero.symm
  | succ i ih =>
    have ih := ih (by omega)
    unfold ofu lowb
    split
    · rw [ih, mat_get f i (by omega), hf.xor]
    · exact ih
theorem ofu_mat {f : W → W} (hf : Lin f) (n : W) : ofu (mat f) n 32 = f n := by rw [ofu_low hf n 32 (Nat.le_refl _), lowb_all]
theorem ofu_stop (m : List W) (n : W) (i : Nat) (h : n >>> i = 0#32) (k : Nat) : ofu m n (i + k) = ofu m n i := by
  induction k with
  | zero => rfl
  | succ k ih =>
    have hb : n.getLsbD (i + k) = false := by
      have := congrArg (fun y => BitVec.getLsbD y k) h
      simpa using this
    show (if n.getLsbD (i + k) then _ else ofu m n (i + k)) = _
    rw [hb]
    simpa using ih
/-- Done two times. -/
theorem mat_twice {f : W → W} (hf : Lin f) : (List.range 32).map (fun i => ofu (mat f) ((mat f).getD i 0#32) 32) = mat (fun x => f (f x)) := by
  unfold mat
  apply List.map_congr_left
  intro i hi
  have hi := List.mem_range.1 hi
  have h1 := mat_get f i hi
  unfold mat at h1
  rw [h1]
  exact ofu_mat hf _

/-- So often. -/
def itf (f : W → W) : Nat → W → W
  | 0, x => x
  | n + 1, x => itf f n (f x)
theorem itf_eights (n : Nat) (x : W) : itf eight n x = eights x n := by
  induction n generalizing x with
  | zero => rfl
  | succ n ih => exact ih (eight x)
theorem itf_half (f : W → W) (n : Nat) (x : W) : itf (fun y => f (f y)) n x = itf f (2 * n) x := by
  induction n generalizing x with
  | zero => rfl
  | succ n ih =>
    rw [Nat.mul_succ]
    exact ih (f (f x))
theorem itf_odd (f : W → W) (n : Nat) (h : n % 2 = 1) (x : W) : itf f n x = itf (fun y => f (f y)) (n / 2) (f x) := by
  rw [itf_half]
  have e : n = 2 * (n / 2) + 1 := by omega
  conv => lhs; rw [e]
  rfl
theorem itf_even (f : W → W) (n : Nat) (h : n % 2 = 0) (x : W) : itf f n x = itf (fun y => f (f y)) (n / 2) x := by
  rw [itf_half]
  congr 1
  omega
theorem Lin.two {f : W → W} (h : Lin f) : Lin (fun x => f (f x)) := h.comp h

/-- What one turn makes of each bit. -/
theorem turn_one : turn (1#32 <<< 0) = poly := by decide
theorem turn_bit (i : Nat) (h : i < 31) : turn (1#32 <<< (i + 1)) = 1#32 <<< i := by
  rw [turn_even]
  · apply BitVec.eq_of_toNat_eq
    have h2 : 2 ^ (i + 1) < 2 ^ 32 := Nat.pow_lt_pow_right (by decide) (by omega)
    have h3 : 2 ^ i < 2 ^ 32 := Nat.pow_lt_pow_right (by decide) (by omega)
    rw [BitVec.toNat_ushiftRight, BitVec.toNat_shiftLeft, BitVec.toNat_shiftLeft, Nat.shiftLeft_eq, Nat.shiftLeft_eq, Nat.shiftRight_eq_div_pow]
    have e1 : (1#32).toNat = 1 := rfl
    rw [e1, Nat.one_mul, Nat.one_mul, Nat.mod_eq_of_lt h2, Nat.mod_eq_of_lt h3, Nat.pow_succ]
    omega
  · rw [BitVec.getLsbD_shiftLeft]
    simp
theorem eight_two : (fun x => (fun x => (fun x => turn (turn x)) ((fun x => turn (turn x)) x)) ((fun x => (fun x => turn (turn x)) ((fun x => turn (turn x)) x)) x)) = eight := rfl
end Go.Proofs.YtcfgcbcciaeabaaDoor.Crc
