/- hash.spread makes of a block of 64 bytes its 64 words. Conditions: the block can be read. -/
import Derived.Test.YtcelojkecfiocaaDoorRot
import Derived.Test.YtcelojkecfiocaaDoorMem
import Derived.StillTailTactics
import Derived.Outline
import Derived.Lib.Hide
namespace Go.Proofs.YtcelojkecfiocaaDoor.Spread
open Go.RowKit Go.Proofs.YtcelojkecfiocaaDoor.Bv Go.Proofs.YtcelojkecfiocaaDoor.Mem
open Go.Proofs.YtcelojkecfiocaaDoorW.PrintWords

/-- The word under way: m of four bytes of the k-th word. -/
def part (b : List UInt8) (k : Nat) : Nat → BitVec 32
  | 0 => 0
  | m + 1 => part b k m <<< 8 ||| Sha.up (Sha.b8 b (4 * k + m))
theorem part_word (b : List UInt8) (k : Nat) : part b k 4 = Sha.word b k := by
  simp [part, Sha.word]
/-- The row under way: some words, one word, noughts. -/
def row (ws : List (BitVec 32)) (x : BitVec 32) : List Value := (ws ++ x :: List.replicate (63 - ws.length) 0).map eu
def rowz (ws : List (BitVec 32)) : List Value := (ws ++ List.replicate (64 - ws.length) 0).map eu
theorem rowz_row (ws : List (BitVec 32)) (h : ws.length < 64) : rowz ws = row ws 0 := by
  unfold rowz row
  rw [show 64 - ws.length = (63 - ws.length) + 1 by omega, List.replicate_succ]
theorem row_rowz (ws : List (BitVec 32)) (x : BitVec 32) (h : ws.length < 64) : row ws x = rowz (ws ++ [x]) := by
  unfold rowz row
  simp [show 64 - (ws.length + 1) = 63 - ws.length by omega]
theorem row_set (ws : List (BitVec 32)) (x y : BitVec 32) (i : Nat) (h : ws.length = i) : (row ws x).set i (eu y) = row ws y := by
  unfold row
  rw [List.map_append, List.map_append, List.map_cons, List.map_cons]
  exact set_mid _ _ _ _ _ (by simp [h])
theorem row_get (ws : List (BitVec 32)) (x : BitVec 32) (i : Nat) (h : ws.length = i) : (row ws x)[i]? = some (eu x) := by
  subst h; simp [row]
theorem row_at (ws : List (BitVec 32)) (x : BitVec 32) (i : Nat) (h : i < ws.length) : (row ws x)[i]? = some (eu (Sha.w32 ws i)) := by
  unfold row
  rw [List.map_append, List.getElem?_append_left (by simpa using h)]
  simp [h, Sha.w32]

structure Rel (B : Nat) (w wr : World) (cs : List Value) : Prop where
  below : Below B w wr
  size : wr.heap.size = B + 2
  own : Arr wr (B + 1) 68 cs
  res : Arr wr B 68 ((List.replicate 64 0).map eu)
theorem Rel.start (w : World) (cs : List Value) (h : cs = (List.replicate 64 0).map eu) : Rel w.heap.size w ((w.alloc (.cells cs.toArray 68)).alloc (.cells cs.toArray 68)) cs := by
  refine ⟨(((Below.refl _ _).alloc (Nat.le_refl _) _).alloc (by simp) _), by simp, ?_, ?_⟩
  · have := Arr.new (w.alloc (.cells cs.toArray 68)) 68 cs
    simpa using this
  · subst h; exact (Arr.new w 68 _).alloc _
theorem Rel.set {B : Nat} {w wr : World} {cs cs' : List Value} (h : Rel B w wr cs) (i : Nat) (v : Value) (hc : cs.set i v = cs') : Rel B w (wr.setCell ⟨B + 1, i, none⟩ v) cs' :=
  ⟨below_setCell h.below (by simp) _, by rw [size_setCell, h.size], hc ▸ h.own.set i v, h.res.other (by simp) v⟩
theorem Rel.drewN {B : Nat} {w wr : World} {cs : List Value} (h : Rel B w wr cs) (n : Nat) : Rel B w (wr.drewN n) cs :=
  ⟨below_drewN h.below n, h.size, h.own, h.res⟩

set_option maxHeartbeats 400000 in
theorem spread_any (A : Option Addr) (c : Nat) (b : List UInt8) (w : World) (hr : ReadsOf eb 0 w A 64 b) (hc : 64 ≤ c) :
    Calls Tryd.prog 44 #[.slice A 64 c] w fun e w' => e = .returned (.agg ((Sha.spread b).map eu).toArray) ∧ Below w.heap.size w w' := by
  obtain ⟨ad, rfl⟩ := reads_some hr (by omega)
  obtain ⟨i0, hi, _, hi1, _⟩ := info_parts (show (Tryd.prog.info? 5).map (fun i => (i.zero, i.size, i.bytes)) = some (some (.int .u8 0), 1, 1) by kernel_rfl)
  go_enter Tryd.func44, Tryd.ntmps44
  go_wp2_with fail
  go_loopw [12] (fun i wr => ∃ k : Nat, k ≤ 16 ∧ i = .int .i64 k ∧ Rel w.heap.size w wr (rowz (Sha.words b k))) (fun i _ => 16 - (intOf i).toNat)
  case atStart => exact ⟨0, by omega, rfl, Rel.start w _ rfl⟩
  case round =>
    obtain ⟨k, hk, rfl, hR⟩ := hrel
    by_cases hlt : k < 16
    · have hs := cut_lh (P := Tryd.prog) 22 5 Tryd.underlying22 hi hi1 ad 64 c (4 * k) (4 * k + 4) (4 * (k : Int)) (4 * (k : Int) + 4) (by omega) (by omega) (by omega) (by omega) (by omega)
      go_wp2_with fail
      go_loopw [23] (fun j wi => ∃ m : Nat, m ≤ 4 ∧ j = .int .i64 m ∧ Rel w.heap.size w wi (row (Sha.words b k) (part b k m))) (fun j _ => 4 - (intOf j).toNat)
      case atStart => exact ⟨0, by omega, rfl, rowz_row (Sha.words b k) (by rw [Sha.words_length]; omega) ▸ hR⟩
      case round =>
        obtain ⟨m, hm, rfl, hI⟩ := hrel
        by_cases hlm : m < 4
        · have hb : wr.cell? ((ad.add (4 * k)).add m) = some (eb (Sha.b8 b (4 * k + m))) := by
            rw [addr_add]; exact reads_cell (hr.below hI.below) _ (by omega)
          have hw : wr.cell? ⟨w.heap.size + 1, k, none⟩ = some (eu (part b k m)) := by
            rw [hI.own.cell, row_get _ _ _ (Sha.words_length b k)]
          have hf : wr.frozen? ⟨w.heap.size + 1, k, none⟩ = false := hI.own.free k
          go_wp2_with fail
          go_roundw
          case rel => exact ⟨m + 1, by omega, by go_num, hI.set _ _ (row_set _ _ _ _ (Sha.words_length b k))⟩
          case measure => simp [intOf]; omega
        · have hm4 : m = 4 := by omega
          subst hm4
          go_wp2_with fail
          go_roundw
          case rel => exact ⟨k + 1, by omega, by go_num, by
            have := row_rowz (Sha.words b k) (part b k 4) (by rw [Sha.words_length]; omega)
            rw [this, part_word] at hI
            exact hI⟩
          case measure => simp [intOf]; omega
    · have hk16 := Lib.hid (show k = 16 by omega)
      go_wp2_with fail
      go_loopw [7] (fun v wi => ∃ i : Nat, 16 ≤ i ∧ i ≤ 64 ∧ v = .int .i64 i ∧ ∃ L : List (BitVec 32), L.length = i ∧ Hid (L = Sha.ext (Sha.words b 16) (i - 16)) ∧ Rel w.heap.size w wi (rowz L)) (fun v _ => 64 - (intOf v).toNat)
      case atStart => exact ⟨16, by omega, by omega, rfl, _, Sha.words_length b 16, rfl, by rw [hk16.out] at hR; exact hR⟩
      case round =>
        obtain ⟨i, hi16, hi, rfl, L, hlen, hL, hI⟩ := hrel
        by_cases hlm : i < 64
        · rw [rowz_row _ (by omega)] at hI
          have get : ∀ (wz : World) (j : Nat), Rel w.heap.size w wz (row L 0) → j < i → wz.cell? ⟨w.heap.size + 1, j, none⟩ = some (eu (Sha.w32 L j)) := fun wz j hz hj => by
            rw [hz.own.cell, row_at _ _ _ (by omega)]
          have free : ∀ (wz : World) (j : Nat), Rel w.heap.size w wz (row L 0) → wz.frozen? ⟨w.heap.size + 1, j, none⟩ = false := fun wz j hz => hz.own.free j
          have here : ∀ (wz : World), Rel w.heap.size w wz (row L 0) → wz.cell? ⟨w.heap.size + 1, i, none⟩ = some (eu 0) := fun wz hz => by
            rw [hz.own.cell, row_get L 0 i hlen]
          have get' := Lib.hid get
          have free' := Lib.hid free
          have here' := Lib.hid here
          have hlen' := Lib.hid hlen
          clear get free here hlen
          have h15 := get'.out wr (i - 15) hI (by omega)
          have h2 := get'.out wr (i - 2) hI (by omega)
          go_wp2_with fail
          go_quiet (fail)
          go_wp2_with ((go_at_call 45; first | (with_reducible refine (Rot.rotl_7 _ _).mono ?_) | (with_reducible refine (Rot.rotl_18 _ _).mono ?_) | (with_reducible refine (Rot.rotl_17 _ _).mono ?_) | (with_reducible refine (Rot.rotl_19 _ _).mono ?_)); rintro e w' ⟨rfl, rfl⟩)
          replace hI := hI.drewN nq
          clear h15 h2
          generalize wr.drewN nq = w2 at hI ⊢
          have h16 := get'.out w2 (i - 16) hI (by omega)
          have h7 := get'.out w2 (i - 7) hI (by omega)
          have hh := here'.out w2 hI
          have hf := free'.out w2 i hI
          have x1 : IntKind.i64.wrap ((i : Int) - 16) = (i : Int) - 16 := IntWalk.i64_in _ (by omega)
          have x2 : IntKind.i64.wrap ((i : Int) - 7) = (i : Int) - 7 := IntWalk.i64_in _ (by omega)
          have x3 : ((i : Int) - 16).toNat = i - 16 := by omega
          have x4 : ((i : Int) - 7).toNat = i - 7 := by omega
          have x5 : 0 ≤ (i : Int) - 16 := by omega
          have x6 : 0 ≤ (i : Int) - 7 := by omega
          have x7 : (i : Int) - 16 < 64 := by omega
          have x8 : (i : Int) - 7 < 64 := by omega
          have x9 : 16 ≤ (i : Int) := by omega
          have x10 : 7 ≤ (i : Int) := by omega
          go_still_tail 15, (by kernel_rfl)
          clear x1 x2 x3 x4 x5 x6 x7 x8 x9 x10 h16 h7 hh hf
          replace hI : Rel w.heap.size w { w2 with drawn := w2.drawn + 1 } (row L 0) := hI.drewN 1
          generalize ({ w2 with drawn := w2.drawn + 1 } : World) = w3 at hI ⊢
          have hh := here'.out w3 hI
          have hf := free'.out w3 i hI
          go_wp2_with fail
          go_roundw
          case rel =>
            refine ⟨i + 1, by omega, by omega, by go_num, L ++ [Sha.nxt L], by simp [hlen'.out], ?_, ?_⟩
            · have h1 := hL.out
              show L ++ [Sha.nxt L] = _
              rw [h1, show i + 1 - 16 = (i - 16) + 1 by omega]; rfl
            · refine hI.set i _ ?_
              rw [row_set _ _ _ _ hlen'.out, row_rowz _ _ (by rw [hlen'.out]; omega)]
              have h1 := hlen'.out
              unfold Sha.nxt
              rw [h1]
              rfl
          case measure => simp [intOf]; omega
        · have hi64 := Lib.hid (show i = 64 by omega)
          have hfull : Arr wr (w.heap.size + 1) 68 ((Sha.spread b).map eu) := by
            have h1 := hI.own
            rw [hL.out, hi64.out] at h1
            unfold rowz at h1
            rw [show (Sha.ext (Sha.words b 16) (64 - 16)).length = 64 from Sha.spread_length b] at h1
            simpa [Sha.spread] using h1
          have hres := hI.res
          have HB := hI.below
          have hl := Sha.spread_length b
          have hsz : ((Sha.spread b).map eu).toArray.size = 64 := by simp [hl]
          have hone : (((Sha.spread b).map eu).toArray).all (·.oneCell') = true := by simp [Value.oneCell']
          obtain ⟨R, hRR⟩ : ∃ R, R = (Sha.spread b).map eu := ⟨_, rfl⟩
          rw [← hRR] at hfull hsz hone
          have hRH := Lib.hid hRR
          clear hRR
          clear hl hI hL hlen
          go_wp2_with (first
            | (refine wpList_load_row rfl 68 _ rfl (w.heap.size + 1) rfl 68 R.toArray (0, 0) _ hfull Tryd.underlying68 rfl ?_ ?_; exact (by kernel_rfl : (Tryd.prog.info? 68).map (·.size) = some 64).trans (congrArg some hsz.symm))
            | (refine wpList_store_row rfl 68 _ _ rfl w.heap.size R.toArray rfl rfl 68 _ hres ?_ ?_ hone ?_; exact (by kernel_rfl : (Tryd.prog.info? 68).map (·.size) = some 64).trans (congrArg some hsz.symm); simp [hsz]))
          have hst : (wr.setRow w.heap.size R.toArray).heap[w.heap.size]? = some (.cells R.toArray 68 (0, 0)) := hres.setRow R
          have hinf : (Tryd.prog.info? 68).map (·.size) = some R.toArray.size := (by kernel_rfl : (Tryd.prog.info? 68).map (·.size) = some 64).trans (congrArg some hsz.symm)
          refine bodyPost_ret (v := .agg R.toArray) ?_ rfl ⟨by rw [hRH.out], below_setRow HB (Nat.le_refl _) _⟩
          exact results_cell_row (by rfl) _ _ w.heap.size 68 R.toArray (0, 0) _ (by rfl) hst Tryd.underlying68 (by rfl) hinf
end Go.Proofs.YtcelojkecfiocaaDoor.Spread
