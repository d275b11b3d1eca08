/- A frame of which up to four neighbouring bytes are other ones is none: in plain words. No conditions. -/
import Derived.Test.YtcfgcbcciaeabaaDoorSumAffine
import Derived.Test.YtcfgcbcciaeabaaDoorSumBack
namespace Go.Proofs.YtcfgcbcciaeabaaDoor.Crc
open Go.Proofs.YtcfgcbcciaeabaaDoor.Sha (b8)
open Go.Proofs.YtcfgcbcciaeabaaDoor.SumAffine (mix_at mix_length)

def ones : W := ~~~ (0#32)
theorem bw_low_bit (s : W) (i j : Nat) : (bw (low s i)).getLsbD j = (decide (j < 8) && s.getLsbD (8 * i + j)) := by
  have e : bw (low s i) = ((s >>> (8 * i)).setWidth 8).setWidth 32 := by
    apply BitVec.eq_of_toNat_eq
    unfold bw low
    rw [BitVec.toNat_ofNat, UInt8.toNat_ofNat', BitVec.toNat_setWidth, BitVec.toNat_setWidth]
  rw [e, BitVec.getLsbD_setWidth, BitVec.getLsbD_setWidth, BitVec.getLsbD_ushiftRight]
  by_cases h : j < 8
  · have : j < 32 := by omega
    simp [h, this]
  · simp [h]
theorem word_tail (s : W) : word (tail s) = s := by
  apply BitVec.eq_of_getLsbD_eq
  intro j hj
  simp only [word, tail, BitVec.getLsbD_xor, BitVec.getLsbD_shiftLeft, bw_low_bit, BitVec.getLsbD_zero]
  have hc : j < 8 ∨ (8 ≤ j ∧ j < 16) ∨ (16 ≤ j ∧ j < 24) ∨ (24 ≤ j ∧ j < 32) := by omega
  rcases hc with h | ⟨h1, h2⟩ | ⟨h1, h2⟩ | ⟨h1, h2⟩
  · simp [h]
  · obtain ⟨k, rfl⟩ : ∃ k, j = 8 + k := ⟨j - 8, by omega⟩
    have h3 : k < 8 := by omega
    have h4 : k < 32 := by omega
    have h6 : ¬ 8 + k < 8 := by omega
    simp [hj, h3, h4, h6]
  · obtain ⟨k, rfl⟩ : ∃ k, j = 16 + k := ⟨j - 16, by omega⟩
    have h3 : k < 8 := by omega
    have h5 : 16 + k - 8 = 8 + k := by omega
    have h6 : ¬ 16 + k < 8 := by omega
    have h7 : ¬ 8 + k < 8 := by omega
    have h8 : 8 + k < 32 := by omega
    have h9 : 8 + k - 8 = k := by omega
    have h10 : k < 32 := by omega
    simp [hj, h3, h5, h6, h7, h8, h9, h10]
  · obtain ⟨k, rfl⟩ : ∃ k, j = 24 + k := ⟨j - 24, by omega⟩
    have h3 : k < 8 := by omega
    have a1 : 24 + k - 8 = 16 + k := by omega
    have a2 : 16 + k - 8 = 8 + k := by omega
    have a3 : 8 + k - 8 = k := by omega
    have b1 : ¬ 24 + k < 8 := by omega
    have b2 : ¬ 16 + k < 8 := by omega
    have b3 : ¬ 8 + k < 8 := by omega
    have c1 : 16 + k < 32 := by omega
    have c2 : 8 + k < 32 := by omega
    have c3 : k < 32 := by omega
    simp [hj, h3, a1, a2, a3, b1, b2, b3, c1, c2, c3]
theorem word_zero : ∀ (l : List UInt8), l.length ≤ 4 → word l = 0#32 → ∀ c ∈ l, c = 0
  | [], _, _ => fun _ h => by cases h
  | c :: l, hl, h => by
    have hl3 : l.length ≤ 3 := by simpa using hl
    have h1 : bw c ^^^ (word l <<< 8) = 0#32 := h
    have hc : c = 0 := by
      have h2 := congrArg (fun x => BitVec.toNat x % 2 ^ 8) h1
      simp only [BitVec.toNat_xor, Nat.xor_mod_two_pow] at h2
      have h3 : (word l <<< 8).toNat % 2 ^ 8 = 0 := by
        rw [BitVec.toNat_shiftLeft, Nat.shiftLeft_eq]
        omega
      rw [h3, Nat.xor_zero] at h2
      unfold bw at h2
      rw [BitVec.toNat_ofNat] at h2
      have h4 := c.toNat_lt
      apply UInt8.toNat_inj.1
      show c.toNat = 0
      have h5 : (0#32).toNat % 2 ^ 8 = 0 := rfl
      omega
    have hw : word l = 0#32 := by
      rw [hc] at h1
      have e : bw 0 = 0#32 := rfl
      rw [e, BitVec.zero_xor] at h1
      have := eight_shl (word l) (word_lt l 3 hl3 (by omega))
      rw [h1] at this
      rw [← this]
      rfl
    intro d hd
    rcases List.mem_cons.1 hd with rfl | hd
    · exact hc
    · exact word_zero l (by omega) hw d hd
theorem word_mix : ∀ (a b : List UInt8), a.length = b.length → word (mix a b) = word a ^^^ word b
  | [], b, h => by
    obtain rfl : b = [] := List.eq_nil_of_length_eq_zero h.symm
    rfl
  | x :: a, [], h => by simp at h
  | x :: a, y :: b, h => by
    show bw (x ^^^ y) ^^^ (word (mix a b) <<< 8) = (bw x ^^^ (word a <<< 8)) ^^^ (bw y ^^^ (word b <<< 8))
    rw [word_mix a b (by simpa using h), bw_xor, BitVec.shiftLeft_xor_distrib]
    ac_rfl
theorem mix_same : ∀ (a b : List UInt8), a.length = b.length → (∀ c ∈ mix a b, c = 0) → a = b
  | [], b, h, _ => (List.eq_nil_of_length_eq_zero h.symm).symm
  | x :: a, [], h, _ => by simp at h
  | x :: a, y :: b, h, hz => by
    have h1 : x ^^^ y = 0 := hz (x ^^^ y) (by simp [mix])
    have h2 := mix_same a b (by simpa using h) (fun c hc => hz c (by simp [mix] at hc ⊢; exact .inr hc))
    rw [UInt8.xor_eq_zero_iff.1 h1, h2]
theorem word_inj {a b : List UInt8} (ha : a.length = 4) (hb : b.length = 4) (h : word a = word b) : a = b := by
  refine mix_same a b (by omega) (word_zero _ ?_ ?_)
  · rw [mix_length]; omega
  · rw [word_mix a b (by omega), h, BitVec.xor_self]

/-- What a whole frame comes to. -/
def K : W := eights ones 4
theorem frame_iff (o t : List UInt8) (ht : t.length = 4) : frame o = o ++ t ↔ run ones (o ++ t) = K := by
  have hr : run ones (o ++ t) = eights (run ones o ^^^ word t) 4 := by
    rw [run_append, run_word t (by omega), ht]
  have hs : sum o = ~~~ run ones o := rfl
  unfold frame
  rw [List.append_cancel_left_eq, hr, hs]
  constructor
  · intro h
    rw [← h, word_tail]
    unfold K ones
    have e : run (~~~ (0#32)) o ^^^ ~~~ run (~~~ (0#32)) o = ~~~ (0#32) := by
      rw [← not_xor, BitVec.xor_self]
    rw [e]
  · intro h
    have h1 := eights_inj 4 h
    refine word_inj rfl ht ?_
    rw [word_tail]
    have e : word t = run ones o ^^^ (run ones o ^^^ word t) := by rw [← BitVec.xor_assoc, BitVec.xor_self, BitVec.zero_xor]
    rw [e, h1]
    unfold ones
    rw [← not_xor, BitVec.xor_zero]
theorem opened_iff (f : List UInt8) (h : 4 ≤ f.length) : frame (f.take (f.length - 4)) = f ↔ run ones f = K := by
  have e : f.take (f.length - 4) ++ f.drop (f.length - 4) = f := List.take_append_drop _ _
  have := frame_iff (f.take (f.length - 4)) (f.drop (f.length - 4)) (by rw [List.length_drop]; omega)
  rwa [e] at this

/-- A frame of which i neighbouring bytes, from k on, are exchanged by those of e. -/
def hit (f : List UInt8) (k : Nat) (e : List UInt8) (i : Nat) : List UInt8 := f.take k ++ mix ((f.drop k).take i) (e.take i) ++ f.drop (k + i)
theorem hit_zero (f : List UInt8) (k : Nat) (e : List UInt8) : hit f k e 0 = f := by simp [hit, mix]
theorem hit_length (f : List UInt8) (k : Nat) (e : List UInt8) (i : Nat) (h : k + i ≤ f.length) (he : i ≤ e.length) : (hit f k e i).length = f.length := by
  unfold hit
  rw [List.length_append, List.length_append, mix_length, List.length_take, List.length_take, List.length_take, List.length_drop, List.length_drop]
  omega
theorem hit_pre (f : List UInt8) (k : Nat) (e : List UInt8) (i : Nat) (h : k + i ≤ f.length) (he : i ≤ e.length) : (f.take k ++ mix ((f.drop k).take i) (e.take i)).length = k + i := by
  rw [List.length_append, mix_length, List.length_take, List.length_take, List.length_take, List.length_drop]
  omega
theorem hit_at (f : List UInt8) (k : Nat) (e : List UInt8) (i : Nat) (h : k + i < f.length) (he : i ≤ e.length) : b8 (hit f k e i) (k + i) = b8 f (k + i) := by
  unfold hit b8
  rw [List.getD_eq_getElem?_getD, List.getElem?_append_right (by rw [hit_pre f k e i (by omega) he]; exact Nat.le_refl _), hit_pre f k e i (by omega) he, Nat.sub_self, List.getElem?_drop, List.getD_eq_getElem?_getD]
  rfl
theorem hit_set (f : List UInt8) (k : Nat) (e : List UInt8) (i : Nat) (h : k + i < f.length) (he : i < e.length) : (hit f k e i).set (k + i) (b8 f (k + i) ^^^ b8 e i) = hit f k e (i + 1) := by
  unfold hit
  have e1 : f.drop (k + i) = f[k + i] :: f.drop (k + i + 1) := List.drop_eq_getElem_cons h
  have hp := hit_pre f k e i (by omega) (by omega)
  have e2 : mix ((f.drop k).take (i + 1)) (e.take (i + 1)) = mix ((f.drop k).take i) (e.take i) ++ [b8 f (k + i) ^^^ b8 e i] := by
    have h1 : i < (f.drop k).length := by rw [List.length_drop]; omega
    rw [List.take_succ_eq_append_getElem h1, List.take_succ_eq_append_getElem he]
    unfold mix
    rw [List.zipWith_append (by rw [List.length_take, List.length_take]; omega)]
    simp [b8, h, he]
  rw [e1, e2, List.set_append_right _ _ (by omega), hp, Nat.sub_self, List.set_cons_zero]
  simp [Nat.add_assoc]
theorem run_hit (f : List UInt8) (k : Nat) (e : List UInt8) (i : Nat) (h : k + i ≤ f.length) (he : i ≤ e.length) : run ones (hit f k e i) = eights (run 0#32 (e.take i)) (f.length - (k + i)) ^^^ run ones f := by
  have hf : f = f.take k ++ (f.drop k).take i ++ f.drop (k + i) := by
    rw [List.append_assoc, ← List.drop_drop, List.take_append_drop, List.take_append_drop]
  have hl : ((f.drop k).take i).length = (e.take i).length := by rw [List.length_take, List.length_take, List.length_drop]; omega
  unfold hit
  rw [run_append, run_append]
  have h1 := run_mix (run ones (f.take k)) 0#32 ((f.drop k).take i) (e.take i) hl
  rw [BitVec.xor_zero] at h1
  rw [h1, BitVec.xor_comm, run_split, List.length_drop]
  congr 1
  conv => rhs; rw [hf]
  rw [run_append, run_append]
theorem mix_nought (q : List UInt8) : mix q (List.replicate q.length 0) = q := by
  induction q with
  | nil => rfl
  | cons c q ih =>
    show (c ^^^ 0) :: mix q (List.replicate q.length 0) = _
    rw [ih]
    simp
/-- THE LAW: only where nothing is exchanged is it a frame. -/
theorem hit_opens (b : List UInt8) (k : Nat) (e : List UInt8) (i : Nat) (h : k + i ≤ (frame b).length) (he : i ≤ e.length) (hi : i ≤ 4) :
    opened (hit (frame b) k e i) = if ∀ c ∈ e.take i, c = 0 then (b, true) else ([], false) := by
  have hfl := frame_length b
  have hl := hit_length (frame b) k e i h he
  have hb : run ones (frame b) = K := by
    have := frame_iff b (tail (sum b)) rfl
    exact this.1 rfl
  have hr := run_hit (frame b) k e i h he
  rw [hb] at hr
  have hiff := opened_iff (hit (frame b) k e i) (by omega)
  have hcond : frame ((hit (frame b) k e i).take ((hit (frame b) k e i).length - 4)) = hit (frame b) k e i ↔ ∀ c ∈ e.take i, c = 0 := by
    rw [hiff, hr]
    constructor
    · intro h1
      have h2 : eights (run 0#32 (e.take i)) ((frame b).length - (k + i)) = 0#32 := by
        have := congrArg (· ^^^ K) h1
        simpa [BitVec.xor_assoc] using this
      have h3 : run 0#32 (e.take i) = 0#32 := eights_inj _ (h2.trans (Lin.zero (eights_lin _)).symm)
      have hle : (e.take i).length ≤ 4 := by rw [List.length_take]; omega
      rw [run_word _ hle, BitVec.zero_xor] at h3
      have h4 : word (e.take i) = 0#32 := eights_inj _ (h3.trans (Lin.zero (eights_lin _)).symm)
      exact word_zero _ hle h4
    · intro h1
      have h2 : e.take i = List.replicate (e.take i).length 0 := List.eq_replicate_iff.2 ⟨rfl, h1⟩
      rw [h2, run_zeros, Lin.zero (eights_lin _), Lin.zero (eights_lin _), BitVec.zero_xor]
  unfold opened
  rw [if_pos (by omega)]
  by_cases hz : ∀ c ∈ e.take i, c = 0
  · have hh := hcond.2 hz
    rw [if_pos hh, if_pos hz]
    have h2 : e.take i = List.replicate (e.take i).length 0 := List.eq_replicate_iff.2 ⟨rfl, hz⟩
    have hll : ((frame b).drop k |>.take i).length = (e.take i).length := by rw [List.length_take, List.length_take, List.length_drop]; omega
    have hsame : hit (frame b) k e i = frame b := by
      unfold hit
      have h3 : mix (((frame b).drop k).take i) (e.take i) = ((frame b).drop k).take i := by
        rw [h2, ← hll]
        exact mix_nought _
      rw [h3, List.append_assoc, ← List.drop_drop, List.take_append_drop, List.take_append_drop]
    rw [hsame, hfl, Nat.add_sub_cancel]
    unfold frame
    rw [List.take_left]
  · rw [if_neg (fun hh => hz (hcond.1 hh)), if_neg hz]
end Go.Proofs.YtcfgcbcciaeabaaDoor.Crc
