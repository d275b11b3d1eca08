/- Sums in plain words: turns of 32 bits, and their laws. No conditions. -/
namespace Go.Proofs.YtcfgcbcciaeabaaDoor.Crc

abbrev W := BitVec 32
def poly : W := 0x82F63B78#32
/-- One turn. -/
def turn (r : W) : W := if r.getLsbD 0 then (r >>> 1) ^^^ poly else r >>> 1
/-- So many turns. -/
def turns (r : W) : Nat → W
  | 0 => r
  | n + 1 => turns (turn r) n
def eight (r : W) : W := turns r 8
/-- What is linear. -/
structure Lin (f : W → W) : Prop where
  xor : ∀ a b, f (a ^^^ b) = f a ^^^ f b
theorem Lin.zero {f : W → W} (h : Lin f) : f 0#32 = 0#32 := by
  have := h.xor 0#32 0#32
  simp only [BitVec.xor_self] at this
  exact this
theorem turn_eq (r : W) : turn r = (r >>> 1) ^^^ (if r.getLsbD 0 then poly else 0#32) := by
  unfold turn
  split <;> simp
theorem turn_lin : Lin turn := ⟨fun a b => by
  rw [turn_eq, turn_eq, turn_eq, BitVec.getLsbD_xor, BitVec.ushiftRight_xor_distrib]
  cases a.getLsbD 0 <;> cases b.getLsbD 0 <;> simp only [Bool.xor_true, Bool.xor_false, Bool.not_true, Bool.not_false, if_true, if_false, BitVec.xor_zero, Bool.false_eq_true]
  · ac_rfl
  · ac_rfl
  · have e : a >>> 1 ^^^ poly ^^^ (b >>> 1 ^^^ poly) = a >>> 1 ^^^ b >>> 1 ^^^ (poly ^^^ poly) := by ac_rfl
    rw [e, BitVec.xor_self, BitVec.xor_zero]⟩
theorem turns_lin (n : Nat) : Lin (turns · n) := by
  induction n with
  | zero => exact ⟨fun _ _ => rfl⟩
  | succ n ih => exact ⟨fun a b => by show turns (turn (a ^^^ b)) n = _; rw [turn_lin.xor]; exact ih.xor _ _⟩
theorem eight_lin : Lin eight := turns_lin 8
theorem Lin.comp {f g : W → W} (hf : Lin f) (hg : Lin g) : Lin (fun x => f (g x)) := ⟨fun a b => by rw [hg.xor, hf.xor]⟩

theorem turns_add (r : W) (m n : Nat) : turns r (m + n) = turns (turns r m) n := by
  induction m generalizing r with
  | zero => rw [Nat.zero_add]; rfl
  | succ m ih => rw [Nat.succ_add]; exact ih (turn r)

/-- No turn forgets. -/
theorem turn_inj {a b : W} (h : turn a = turn b) : a = b := by
  have hz : turn (a ^^^ b) = 0#32 := by rw [turn_lin.xor, h, BitVec.xor_self]
  have key : ∀ x : W, turn x = 0#32 → x = 0#32 := by
    intro x hx
    rw [turn_eq] at hx
    cases h0 : x.getLsbD 0 with
    | true =>
      rw [h0, if_pos rfl] at hx
      have h31 := congrArg (fun y => BitVec.getLsbD y 31) hx
      simp only [BitVec.getLsbD_xor, BitVec.getLsbD_ushiftRight, BitVec.getLsbD_zero] at h31
      rw [BitVec.getLsbD_of_ge x (1 + 31) (by omega)] at h31
      exact absurd h31 (by decide)
    | false =>
      rw [h0] at hx
      simp only [Bool.false_eq_true, if_false, BitVec.xor_zero] at hx
      apply BitVec.eq_of_getLsbD_eq
      intro i hi
      rw [BitVec.getLsbD_zero]
      cases i with
      | zero => exact h0
      | succ i =>
        have hb := congrArg (fun y => BitVec.getLsbD y i) hx
        simp only [BitVec.getLsbD_ushiftRight, BitVec.getLsbD_zero] at hb
        rw [Nat.add_comm] at hb
        exact hb
  have := key _ hz
  have e : a = (a ^^^ b) ^^^ b := by rw [BitVec.xor_assoc, BitVec.xor_self, BitVec.xor_zero]
  rw [e, this, BitVec.zero_xor]
theorem turns_inj {a b : W} (n : Nat) (h : turns a n = turns b n) : a = b := by
  induction n generalizing a b with
  | zero => exact h
  | succ n ih => exact turn_inj (ih h)

/-- Turns of what has zeros at its end. -/
theorem turn_even (r : W) (h : r.getLsbD 0 = false) : turn r = r >>> 1 := by
  unfold turn
  rw [h]
  rfl
theorem turns_shr (n : Nat) : ∀ r : W, (∀ i, i < n → r.getLsbD i = false) → turns r n = r >>> n := by
  induction n with
  | zero => intro r _; simp [turns]
  | succ n ih =>
    intro r h
    show turns (turn r) n = _
    rw [turn_even r (h 0 (by omega)), ih]
    · rw [← BitVec.shiftRight_add, Nat.add_comm]
    · intro i hi
      rw [BitVec.getLsbD_ushiftRight]
      exact h _ (by omega)

/-- The table: what four turns make of the numbers below 16. -/
def nibs : List W := [0x00000000#32, 0x105EC76F#32, 0x20BD8EDE#32, 0x30E349B1#32, 0x417B1DBC#32, 0x5125DAD3#32, 0x61C69362#32, 0x7198540D#32, 0x82F63B78#32, 0x92A8FC17#32, 0xA24BB5A6#32, 0xB21572C9#32, 0xC38D26C4#32, 0xD3D3E1AB#32, 0xE330A81A#32, 0xF36E6F75#32]
def nib (k : Nat) : W := nibs.getD k 0
theorem nib_turns : ∀ k : Fin 16, turns (BitVec.ofNat 32 k.val) 4 = nib k.val := by decide +kernel
theorem four (r : W) : (r >>> 4) ^^^ nib (r &&& 15#32).toNat = turns r 4 := by
  have hk : (r &&& 15#32).toNat < 16 := by
    rw [BitVec.toNat_and]
    exact Nat.lt_of_le_of_lt Nat.and_le_right (by decide)
  have e1 : BitVec.ofNat 32 (r &&& 15#32).toNat = r &&& 15#32 := by
    apply BitVec.eq_of_toNat_eq
    rw [BitVec.toNat_ofNat]
    exact Nat.mod_eq_of_lt (BitVec.isLt _)
  have h1 := nib_turns ⟨_, hk⟩
  simp only at h1
  rw [e1] at h1
  rw [← h1]
  have hlow : ∀ i, i < 4 → (r ^^^ (r &&& 15#32)).getLsbD i = false := by
    intro i hi
    rw [BitVec.getLsbD_xor, BitVec.getLsbD_and]
    have : (15#32).getLsbD i = true := by
      have : i = 0 ∨ i = 1 ∨ i = 2 ∨ i = 3 := by omega
      rcases this with rfl | rfl | rfl | rfl <;> decide
    rw [this, Bool.and_true, Bool.xor_self]
  have h2 := turns_shr 4 _ hlow
  have h3 : (r ^^^ (r &&& 15#32)) >>> 4 = r >>> 4 := by
    rw [BitVec.ushiftRight_xor_distrib]
    have : (r &&& 15#32) >>> 4 = 0#32 := by
      apply BitVec.eq_of_toNat_eq
      rw [BitVec.toNat_ushiftRight, Nat.shiftRight_eq_div_pow]
      show _ = 0
      omega
    rw [this, BitVec.xor_zero]
  have h4 : turns ((r ^^^ (r &&& 15#32)) ^^^ (r &&& 15#32)) 4 = turns (r ^^^ (r &&& 15#32)) 4 ^^^ turns (r &&& 15#32) 4 := (turns_lin 4).xor _ _
  rw [h2, h3, BitVec.xor_assoc, BitVec.xor_self, BitVec.xor_zero] at h4
  exact h4.symm

/-- A byte as a word. -/
def bw (c : UInt8) : W := BitVec.ofNat 32 c.toNat
def step (r : W) (c : UInt8) : W := eight (r ^^^ bw c)
def run (r : W) (l : List UInt8) : W := l.foldl step r
theorem run_append (r : W) (a b : List UInt8) : run r (a ++ b) = run (run r a) b := List.foldl_append
theorem run_cons (r : W) (c : UInt8) (l : List UInt8) : run r (c :: l) = run (eight (r ^^^ bw c)) l := rfl
/-- The sum of some bytes behind those that have the sum s. -/
def more (s : W) (l : List UInt8) : W := ~~~ run (~~~ s) l
def sum (l : List UInt8) : W := more 0#32 l
theorem more_append (s : W) (a b : List UInt8) : more s (a ++ b) = more (more s a) b := by
  unfold more
  rw [run_append, BitVec.not_not]

/-- Eight turns, so often. -/
def eights (r : W) : Nat → W
  | 0 => r
  | n + 1 => eights (eight r) n
theorem eights_lin (n : Nat) : Lin (eights · n) := by
  induction n with
  | zero => exact ⟨fun _ _ => rfl⟩
  | succ n ih => exact ⟨fun a b => by show eights (eight (a ^^^ b)) n = _; rw [eight_lin.xor]; exact ih.xor _ _⟩
theorem eights_add (r : W) (m n : Nat) : eights r (m + n) = eights (eights r m) n := by
  induction m generalizing r with
  | zero => rw [Nat.zero_add]; rfl
  | succ m ih => rw [Nat.succ_add]; exact ih (eight r)
theorem eights_inj {a b : W} (n : Nat) (h : eights a n = eights b n) : a = b := by
  induction n generalizing a b with
  | zero => exact h
  | succ n ih => exact turns_inj 8 (ih h)
theorem eights_succ (r : W) (n : Nat) : eights r (n + 1) = eight (eights r n) := by rw [eights_add]; rfl

/-- Two rows of bytes, exchanged bit by bit. -/
def mix (a b : List UInt8) : List UInt8 := List.zipWith (· ^^^ ·) a b
theorem bw_xor (a b : UInt8) : bw (a ^^^ b) = bw a ^^^ bw b := by
  apply BitVec.eq_of_toNat_eq
  unfold bw
  rw [BitVec.toNat_xor, BitVec.toNat_ofNat, BitVec.toNat_ofNat, BitVec.toNat_ofNat, UInt8.toNat_xor]
  have h1 := a.toNat_lt
  have h2 := b.toNat_lt
  have h3 : (a.toNat ^^^ b.toNat) < 2 ^ 8 := Nat.xor_lt_two_pow h1 h2
  rw [Nat.mod_eq_of_lt (by omega), Nat.mod_eq_of_lt (by omega), Nat.mod_eq_of_lt (by omega)]
theorem run_mix (r s : W) : ∀ (a b : List UInt8), a.length = b.length → run (r ^^^ s) (mix a b) = run r a ^^^ run s b := by
  intro a
  induction a generalizing r s with
  | nil =>
    intro b hb
    obtain rfl : b = [] := List.eq_nil_of_length_eq_zero hb.symm
    rfl
  | cons x a ih =>
    intro b hb
    match b, hb with
    | y :: b, hb =>
      have e : (r ^^^ s) ^^^ bw (x ^^^ y) = (r ^^^ bw x) ^^^ (s ^^^ bw y) := by
        rw [bw_xor, BitVec.xor_assoc, BitVec.xor_assoc, ← BitVec.xor_assoc s, BitVec.xor_comm s (bw x), BitVec.xor_assoc]
      show run (eight ((r ^^^ s) ^^^ bw (x ^^^ y))) (mix a b) = _
      rw [e, eight_lin.xor, ih _ _ b (by simpa using hb)]
      rfl
theorem mix_zero (l : List UInt8) : mix (List.replicate l.length 0) l = l := by
  induction l with
  | nil => rfl
  | cons c l ih =>
    show (0 ^^^ c) :: mix (List.replicate l.length 0) l = _
    rw [ih]
    simp
theorem run_zeros (r : W) (n : Nat) : run r (List.replicate n 0) = eights r n := by
  induction n generalizing r with
  | zero => rfl
  | succ n ih =>
    rw [List.replicate_succ, run_cons, ih]
    have : bw 0 = 0#32 := rfl
    rw [this, BitVec.xor_zero]
    rfl
/-- What stood ahead goes its own way. -/
theorem run_split (r s : W) (l : List UInt8) : run (r ^^^ s) l = eights r l.length ^^^ run s l := by
  have h := run_mix r s (List.replicate l.length 0) l (by simp)
  rw [mix_zero, run_zeros] at h
  exact h
theorem not_xor (a b : W) : ~~~ (a ^^^ b) = a ^^^ ~~~ b := by
  rw [← BitVec.allOnes_xor, ← BitVec.allOnes_xor, ← BitVec.xor_assoc, BitVec.xor_comm _ a, BitVec.xor_assoc]
def join (x y : W) (n : Nat) : W := eights x n ^^^ y
/-- The sum of bytes comes from the sums of their parts. -/
theorem more_join (s : W) (b : List UInt8) : more s b = join s (sum b) b.length := by
  have e : ~~~ s = s ^^^ ~~~ (0#32) := by
    rw [← not_xor, BitVec.xor_zero]
  unfold join sum more
  rw [e, run_split, not_xor]
theorem join_assoc (x y z : W) (m n : Nat) : join (join x y m) z n = join x (join y z n) (m + n) := by
  unfold join
  have : eights (eights x m ^^^ y) n = eights (eights x m) n ^^^ eights y n := (eights_lin n).xor _ _
  rw [this, eights_add, BitVec.xor_assoc]
/-- Three rows. -/
theorem sum_three (a b c : List UInt8) (h1 : a.length = b.length) (h2 : b.length = c.length) : sum (mix (mix a b) c) = sum a ^^^ sum b ^^^ sum c := by
  unfold sum more
  have e : ~~~ (0#32) = (~~~ (0#32) ^^^ ~~~ (0#32)) ^^^ ~~~ (0#32) := by rw [BitVec.xor_self, BitVec.zero_xor]
  have hm : (mix a b).length = c.length := by unfold mix; rw [List.length_zipWith]; omega
  have h := run_mix (~~~ (0#32) ^^^ ~~~ (0#32)) (~~~ (0#32)) (mix a b) c hm
  rw [run_mix _ _ a b h1] at h
  rw [← e] at h
  rw [h]
  generalize run (~~~ (0#32)) a = x
  generalize run (~~~ (0#32)) b = y
  generalize run (~~~ (0#32)) c = z
  rw [not_xor]
  congr 1
  rw [← BitVec.allOnes_xor, ← BitVec.allOnes_xor, BitVec.xor_comm (BitVec.allOnes 32) x, BitVec.xor_assoc, ← BitVec.xor_assoc (BitVec.allOnes 32), BitVec.xor_self, BitVec.zero_xor]

/-! Frames -/
/-- A sum's four bytes, the lowest first. -/
def low (s : W) (i : Nat) : UInt8 := UInt8.ofNat ((s >>> (8 * i)).toNat)
def tail (s : W) : List UInt8 := [low s 0, low s 1, low s 2, low s 3]
def frame (b : List UInt8) : List UInt8 := b ++ tail (sum b)
theorem frame_length (b : List UInt8) : (frame b).length = b.length + 4 := by simp [frame, tail]
def opened (b : List UInt8) : List UInt8 × Bool := if 4 ≤ b.length then (if frame (b.take (b.length - 4)) = b then (b.take (b.length - 4), true) else ([], false)) else ([], false)
/-- The word of some bytes, the lowest first. -/
def word : List UInt8 → W
  | [] => 0#32
  | c :: l => bw c ^^^ (word l <<< 8)
theorem bw_lt (c : UInt8) : (bw c).toNat < 256 := by
  unfold bw
  rw [BitVec.toNat_ofNat]
  have := c.toNat_lt
  omega
theorem word_lt : ∀ (l : List UInt8) (n : Nat), l.length ≤ n → n ≤ 4 → (word l).toNat < 2 ^ (8 * n)
  | [], n, _, _ => by
    show 0 < _
    exact Nat.two_pow_pos _
  | c :: l, n, h, hn => by
    obtain ⟨k, rfl⟩ : ∃ k, n = k + 1 := ⟨n - 1, by simp at h; omega⟩
    have ih := word_lt l k (by simpa using h) (by omega)
    show (bw c ^^^ (word l <<< 8)).toNat < _
    rw [BitVec.toNat_xor]
    have h8 : 2 ^ 8 ≤ 2 ^ (8 * (k + 1)) := Nat.pow_le_pow_right (by decide) (by omega)
    refine Nat.xor_lt_two_pow (Nat.lt_of_lt_of_le (bw_lt c) h8) ?_
    · rw [BitVec.toNat_shiftLeft, Nat.shiftLeft_eq]
      refine Nat.lt_of_le_of_lt (Nat.mod_le _ _) ?_
      have e : 2 ^ (8 * (k + 1)) = 2 ^ (8 * k) * 2 ^ 8 := by rw [Nat.mul_add, Nat.pow_add]
      rw [e]
      exact Nat.mul_lt_mul_of_pos_right ih (by decide)
theorem eight_shl (x : W) (h : x.toNat < 2 ^ 24) : eight (x <<< 8) = x := by
  unfold eight
  rw [turns_shr 8]
  · apply BitVec.eq_of_toNat_eq
    rw [BitVec.toNat_ushiftRight, BitVec.toNat_shiftLeft, Nat.shiftLeft_eq, Nat.shiftRight_eq_div_pow]
    omega
  · intro i hi
    rw [BitVec.getLsbD_shiftLeft]
    simp [hi]
theorem run_word (l : List UInt8) (h : l.length ≤ 4) (r : W) : run r l = eights (r ^^^ word l) l.length := by
  induction l generalizing r with
  | nil => show r = r ^^^ 0#32; rw [BitVec.xor_zero]
  | cons c l ih =>
    have hl : l.length ≤ 3 := by simpa using h
    rw [run_cons, ih (by omega)]
    show _ = eights (eight (r ^^^ (bw c ^^^ (word l <<< 8)))) l.length
    have e : eight ((r ^^^ bw c) ^^^ (word l <<< 8)) = eight (r ^^^ bw c) ^^^ word l := by rw [eight_lin.xor (r ^^^ bw c), eight_shl _ (word_lt l 3 hl (by omega))]
    rw [← BitVec.xor_assoc, e]
end Go.Proofs.YtcfgcbcciaeabaaDoor.Crc
