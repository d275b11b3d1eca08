/- SHA-256 on lists of bytes, in plain Lean: what the document's chapter 3 defines, and that a digest taken in pieces is that of the whole. No program in sight; no conditions. -/
namespace Go.Proofs.YtcelojkecfiocaaDoor.Sha
abbrev U := BitVec 32
def rotr (x : U) (n : Nat) : U := x >>> n ||| x <<< (32 - n)
def sg0 (x : U) : U := rotr x 7 ^^^ rotr x 18 ^^^ x >>> 3
def sg1 (x : U) : U := rotr x 17 ^^^ rotr x 19 ^^^ x >>> 10
def bs0 (x : U) : U := rotr x 2 ^^^ rotr x 13 ^^^ rotr x 22
def bs1 (x : U) : U := rotr x 6 ^^^ rotr x 11 ^^^ rotr x 25
def ch (e f g : U) : U := (e &&& f) ^^^ (~~~e &&& g)
def maj (a b c : U) : U := (a &&& b) ^^^ (a &&& c) ^^^ (b &&& c)

/-- The first words: of square roots, of cube roots. -/
def iv : List U := [1779033703, 3144134277, 1013904242, 2773480762, 1359893119, 2600822924, 528734635, 1541459225]
def ks : List U := [
  1116352408, 1899447441, 3049323471, 3921009573, 961987163, 1508970993, 2453635748, 2870763221,
  3624381080, 310598401, 607225278, 1426881987, 1925078388, 2162078206, 2614888103, 3248222580,
  3835390401, 4022224774, 264347078, 604807628, 770255983, 1249150122, 1555081692, 1996064986,
  2554220882, 2821834349, 2952996808, 3210313671, 3336571891, 3584528711, 113926993, 338241895,
  666307205, 773529912, 1294757372, 1396182291, 1695183700, 1986661051, 2177026350, 2456956037,
  2730485921, 2820302411, 3259730800, 3345764771, 3516065817, 3600352804, 4094571909, 275423344,
  430227734, 506948616, 659060556, 883997877, 958139571, 1322822218, 1537002063, 1747873779,
  1955562222, 2024104815, 2227730452, 2361852424, 2428436474, 2756734187, 3204031479, 3329325298]

/-- The byte, the word at a place, 0 behind the end: closed to a walk's simp. -/
def b8 (l : List UInt8) (i : Nat) : UInt8 := l.getD i 0
def w32 (l : List U) (i : Nat) : U := l.getD i 0
/-- A byte as a word. -/
def up (c : UInt8) : U := c.toBitVec.setWidth 32
/-- Four bytes, the highest first. -/
def word (b : List UInt8) (k : Nat) : U := ((up (b8 b (4 * k)) <<< 8 ||| up (b8 b (4 * k + 1))) <<< 8 ||| up (b8 b (4 * k + 2))) <<< 8 ||| up (b8 b (4 * k + 3))
/-- The first k words of a block. -/
def words (b : List UInt8) : Nat → List U
  | 0 => []
  | k + 1 => words b k ++ [word b k]
/-- The next word behind a row of at least sixteen. -/
def nxt (l : List U) : U := w32 l (l.length - 16) + sg0 (w32 l (l.length - 15)) + w32 l (l.length - 7) + sg1 (w32 l (l.length - 2))
/-- k words more. -/
def ext (l : List U) : Nat → List U
  | 0 => l
  | k + 1 => ext l k ++ [nxt (ext l k)]
def spread (b : List UInt8) : List U := ext (words b 16) 48
/-- One round. -/
def round (x : List U) (k w : U) : List U :=
  [w32 x 7 + bs1 (w32 x 4) + ch (w32 x 4) (w32 x 5) (w32 x 6) + k + w + (bs0 (w32 x 0) + maj (w32 x 0) (w32 x 1) (w32 x 2)),
   w32 x 0, w32 x 1, w32 x 2,
   w32 x 3 + (w32 x 7 + bs1 (w32 x 4) + ch (w32 x 4) (w32 x 5) (w32 x 6) + k + w),
   w32 x 4, w32 x 5, w32 x 6]
/-- n rounds. -/
def rounds (h ws : List U) : Nat → List U
  | 0 => h
  | n + 1 => round (rounds h ws n) (w32 ks n) (w32 ws n)
/-- Eight words, changed by a block. -/
def block (h : List U) (b : List UInt8) : List U := List.zipWith (· + ·) h (rounds h (spread b) 64)
/-- .. by the first j blocks of a row of bytes. -/
def comp (h : List U) (l : List UInt8) : Nat → List U
  | 0 => h
  | j + 1 => block (comp h l j) ((l.drop (64 * j)).take 64)
/-- A word's four bytes, the highest first. -/
def low (x : U) : UInt8 := ⟨x.setWidth 8⟩
def four (x : U) : List UInt8 := [low (x >>> 24), low (x >>> 16), low (x >>> 8), low x]
def out (h : List U) : List UInt8 := h.flatMap four
/-- How many noughts fill up. -/
def zeros (n : Nat) : Nat := (119 - n % 64) % 64
/-- The i-th byte of a length, told in bits. -/
def len8 (n i : Nat) : UInt8 := UInt8.ofNat (n * 8 % 18446744073709551616 / 2 ^ (8 * i))
def lens (n : Nat) : List UInt8 := [len8 n 7, len8 n 6, len8 n 5, len8 n 4, len8 n 3, len8 n 2, len8 n 1, len8 n 0]
def pad (n : Nat) : List UInt8 := 128 :: (List.replicate (zeros n) 0 ++ lens n)
def filled (m : List UInt8) : List UInt8 := m ++ pad m.length
/-- THE DIGEST. -/
def sha (m : List UInt8) : List UInt8 := out (comp iv (filled m) ((filled m).length / 64))

example : sha [97, 98, 99] = [0xba, 0x78, 0x16, 0xbf, 0x8f, 0x01, 0xcf, 0xea, 0x41, 0x41, 0x40, 0xde, 0x5d, 0xae, 0x22, 0x23, 0xb0, 0x03, 0x61, 0xa3, 0x96, 0x17, 0x7a, 0x9c, 0xb4, 0x10, 0xff, 0x61, 0xf2, 0x00, 0x15, 0xad] := by decide +kernel

/-! ### Sizes -/
theorem words_length (b : List UInt8) (k : Nat) : (words b k).length = k := by
  induction k with
  | zero => rfl
  | succ k ih => simp [words, ih]
theorem ext_length (l : List U) (k : Nat) : (ext l k).length = l.length + k := by
  induction k with
  | zero => rfl
  | succ k ih => simp [ext, ih]; omega
theorem spread_length (b : List UInt8) : (spread b).length = 64 := by
  simp [spread, ext_length, words_length]
theorem round_length (x : List U) (k w : U) : (round x k w).length = 8 := rfl
theorem rounds_length (h ws : List U) (hh : h.length = 8) (n : Nat) : (rounds h ws n).length = 8 := by
  cases n with
  | zero => exact hh
  | succ n => rfl
theorem block_length (h : List U) (b : List UInt8) (hh : h.length = 8) : (block h b).length = 8 := by
  simp [block, rounds_length h _ hh, hh]
theorem comp_length (h : List U) (l : List UInt8) (hh : h.length = 8) (j : Nat) : (comp h l j).length = 8 := by
  induction j with
  | zero => exact hh
  | succ j ih => exact block_length _ _ ih
theorem flat_length (h : List U) : (h.flatMap four).length = 4 * h.length := by
  induction h with
  | nil => rfl
  | cons x h ih => simp [List.flatMap_cons, ih, four]; omega
theorem sha_length (m : List UInt8) : (sha m).length = 32 := by
  unfold sha out
  rw [flat_length, comp_length _ _ (by rfl)]
theorem pad_length (n : Nat) : (pad n).length = zeros n + 9 := by
  simp [pad, lens]
theorem filled_length (m : List UInt8) : (filled m).length = m.length + zeros m.length + 9 := by
  simp [filled, pad_length]; omega
theorem zeros_lt (n : Nat) : zeros n < 64 := by unfold zeros; omega
theorem zeros_fit (n : Nat) : (n + zeros n + 9) % 64 = 0 := by unfold zeros; omega

/-! ### In pieces -/
theorem comp_pre (h : List U) (a c : List UInt8) (j : Nat) (hj : 64 * j ≤ a.length) : comp h (a ++ c) j = comp h a j := by
  induction j with
  | zero => rfl
  | succ j ih =>
    simp only [comp]
    rw [ih (by omega), List.drop_append_of_le_length (by omega), List.take_append_of_le_length (by rw [List.length_drop]; omega)]
theorem comp_add (h : List U) (l : List UInt8) (i j : Nat) : comp h l (i + j) = comp (comp h l i) (l.drop (64 * i)) j := by
  induction j with
  | zero => rfl
  | succ j ih =>
    rw [← Nat.add_assoc]
    simp only [comp]
    rw [ih, List.drop_drop, Nat.mul_add]
/-- What a hash keeps that has taken m: the words, and what is less than a block. -/
def kept (m : List UInt8) : List U := comp iv m (m.length / 64)
def rest (m : List UInt8) : List UInt8 := m.drop (64 * (m.length / 64))
theorem rest_length (m : List UInt8) : (rest m).length = m.length % 64 := by
  simp [rest]; omega
theorem rest_lt (m : List UInt8) : (rest m).length < 64 := by rw [rest_length]; omega
theorem kept_length (m : List UInt8) : (kept m).length = 8 := comp_length _ _ (by rfl) _
theorem kept_nil : kept [] = iv := rfl
theorem rest_nil : rest [] = [] := rfl
theorem take_rest (m : List UInt8) : m.take (64 * (m.length / 64)) ++ rest m = m := List.take_append_drop _ _
theorem comp_rest (m b : List UInt8) (j : Nat) : comp (kept m) (rest m ++ b) j = comp iv (m ++ b) (m.length / 64 + j) := by
  rw [comp_add, comp_pre iv m b _ (by omega)]
  unfold kept rest
  rw [List.drop_append_of_le_length (by omega)]
theorem div_rest (m b : List UInt8) : (m ++ b).length / 64 = m.length / 64 + (rest m ++ b).length / 64 := by
  rw [List.length_append, List.length_append, rest_length]; omega
theorem kept_append (m b : List UInt8) : kept (m ++ b) = comp (kept m) (rest m ++ b) ((rest m ++ b).length / 64) := by
  rw [comp_rest, ← div_rest]; rfl
theorem rest_append (m b : List UInt8) : rest (m ++ b) = (rest m ++ b).drop (64 * ((rest m ++ b).length / 64)) := by
  unfold rest
  rw [show (m ++ b).length / 64 = m.length / 64 + (m.drop (64 * (m.length / 64)) ++ b).length / 64 from div_rest m b, Nat.mul_add, ← List.drop_drop, List.drop_append_of_le_length (by omega)]
/-- What is behind the last whole block, filled up, gives the digest. -/
theorem sha_rest (m : List UInt8) : sha m = out (comp (kept m) (rest m ++ pad m.length) ((rest m ++ pad m.length).length / 64)) := by
  rw [comp_rest, ← div_rest]; rfl
theorem zeros_rest (m : List UInt8) : zeros (rest m).length = zeros m.length := by
  unfold zeros; rw [rest_length]; omega
end Go.Proofs.YtcelojkecfiocaaDoor.Sha
