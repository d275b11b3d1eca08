/- The reference's change: eight words, changed by a block of 64 bytes, as the document says. Conditions: the block can be read; the tables hold their constants. -/
import Derived.Test.YtcelojkecfiocaaDoorRefSpread
import Derived.Test.YtcelojkecfiocaaDoorChanged
namespace Go.Proofs.YtcelojkecfiocaaDoor.RefChange
open Go.RowKit Go.Proofs.YtcelojkecfiocaaDoor.Bv Go.Proofs.YtcelojkecfiocaaDoor.Mem
open Go.Proofs.YtcelojkecfiocaaDoorW.PrintWords
open Go.Proofs.YtcelojkecfiocaaDoor.Changed (RTabs list8 cell_tab mix mix_at mix_set)

/-- The words under way: those from place i on are moved by one. -/
def shf (X : List (BitVec 32)) (i : Nat) : List (BitVec 32) := X.take (i + 1) ++ (X.drop i).take (7 - i)
theorem shf_set (x0 x1 x2 x3 x4 x5 x6 x7 : BitVec 32) (i : Nat) (h0 : 0 < i) (h1 : i ≤ 7) :
    ((shf [x0, x1, x2, x3, x4, x5, x6, x7] i).map eu).set i (eu (Sha.w32 [x0, x1, x2, x3, x4, x5, x6, x7] (i - 1))) = (shf [x0, x1, x2, x3, x4, x5, x6, x7] (i - 1)).map eu := by
  rcases (by omega : i = 1 ∨ i = 2 ∨ i = 3 ∨ i = 4 ∨ i = 5 ∨ i = 6 ∨ i = 7) with rfl | rfl | rfl | rfl | rfl | rfl | rfl <;> rfl
theorem shf_at (x0 x1 x2 x3 x4 x5 x6 x7 : BitVec 32) (i : Nat) (h0 : 0 < i) (h1 : i ≤ 7) :
    ((shf [x0, x1, x2, x3, x4, x5, x6, x7] i).map eu)[i - 1]? = some (eu (Sha.w32 [x0, x1, x2, x3, x4, x5, x6, x7] (i - 1))) := by
  rcases (by omega : i = 1 ∨ i = 2 ∨ i = 3 ∨ i = 4 ∨ i = 5 ∨ i = 6 ∨ i = 7) with rfl | rfl | rfl | rfl | rfl | rfl | rfl <;> rfl
theorem shf_here (x0 x1 x2 x3 x4 x5 x6 x7 : BitVec 32) (i : Nat) (h0 : 0 < i) (h1 : i ≤ 7) :
    ((shf [x0, x1, x2, x3, x4, x5, x6, x7] i).map eu)[i]? = some (eu (Sha.w32 [x0, x1, x2, x3, x4, x5, x6, x7] i)) := by
  rcases (by omega : i = 1 ∨ i = 2 ∨ i = 3 ∨ i = 4 ∨ i = 5 ∨ i = 6 ∨ i = 7) with rfl | rfl | rfl | rfl | rfl | rfl | rfl <;> rfl

structure Rel (G : Nat) (w1 wr : World) (X : List Value) : Prop where
  below : Below G w1 wr
  x : Arr wr G 55 X
theorem Rel.drewN {G : Nat} {w1 wr : World} {X : List Value} (h : Rel G w1 wr X) (n : Nat) : Rel G w1 (wr.drewN n) X := ⟨below_drewN h.below n, h.x⟩
theorem Rel.set {G : Nat} {w1 wr : World} {X X' : List Value} (h : Rel G w1 wr X) (i : Nat) (v : Value) (hX : X.set i v = X') : Rel G w1 (wr.setCell ⟨G, i, none⟩ v) X' :=
  ⟨below_setCell h.below (Nat.le_refl _) _, hX ▸ h.x.set i v⟩

structure Changed3 (B G : Nat) (w wr : World) (bx X : List (BitVec 32)) : Prop where
  below : Below B w wr
  box : Arr wr B 55 (bx.map eu)
  res : Arr wr (B + 1) 55 ((List.replicate 8 0).map eu)
  x : Arr wr G 55 (X.map eu)
theorem Changed3.drewN {B G : Nat} {w wr : World} {a X : List (BitVec 32)} (h : Changed3 B G w wr a X) (n : Nat) : Changed3 B G w (wr.drewN n) a X :=
  ⟨below_drewN h.below n, h.box, h.res, h.x⟩
theorem Changed3.setBox {B G : Nat} {w wr : World} {a X : List (BitVec 32)} (h : Changed3 B G w wr a X) (hG : B + 2 ≤ G) (i : Nat) (v : BitVec 32) : Changed3 B G w (wr.setCell ⟨B, i, none⟩ (eu v)) (a.set i v) X :=
  ⟨below_setCell h.below (by simp) _, by have := h.box.set i (eu v); rwa [← List.map_set] at this, h.res.other (by simp) _, h.x.other (by simp; omega) _⟩

set_option maxRecDepth 100000 in
set_option maxHeartbeats 800000 in
theorem change_any (h : List (BitVec 32)) (hh : h.length = 8) (A : Option Addr) (c : Nat) (b : List UInt8) (w : World) (hT : RTabs w) (hr : ReadsOf eb 0 w A 64 b) :
    Calls Tryd.prog 37 #[.agg (h.map eu).toArray, .slice A 64 c] w fun e w' => e = .returned (.agg ((Sha.block h b).map eu).toArray) ∧ Below w.heap.size w w' := by
  obtain ⟨a0, a1, a2, a3, a4, a5, a6, a7, rfl⟩ := list8 h hh
  go_enter Tryd.func37, Tryd.ntmps37
  go_wp2_with fail
  refine (RefSpread.spread_any A c b _ (hr.below (((Below.refl _ _).alloc (Nat.le_refl _) _).alloc (by simp) _))).mono ?_
  rintro e w1 ⟨v, rfl, hown, hb⟩
  have hbox : Arr w1 w.heap.size 55 ([a0, a1, a2, a3, a4, a5, a6, a7].map eu) := ((Arr.new w 55 ([a0, a1, a2, a3, a4, a5, a6, a7].map eu)).alloc _).below hb
  have hres : Arr w1 (w.heap.size + 1) 55 ((List.replicate 8 0).map eu) := by
    have := (Arr.new (w.alloc (.cells ([a0, a1, a2, a3, a4, a5, a6, a7].map eu).toArray 55)) 55 ((List.replicate 8 0).map eu)).below hb
    simpa using this
  have hbw : Below w.heap.size w w1 := ((Below.refl _ _).alloc (Nat.le_refl _) _).alloc (by simp) _ |>.trans (hb.mono (by simp; omega))
  have hT1 : RTabs w1 := hT.below hbw
  obtain ⟨g, cp, rfl, hg0, hg1⟩ := hown.form (by omega)
  have hws : ∀ (n : Nat), n < 64 → w1.cell? ⟨g, n, none⟩ = some (eu (Sha.w32 (Sha.spread b) n)) := fun n hn => by
    have := hown.cells (g := g) rfl n _ (encs_get (d := 0) (Sha.spread b) n (by rw [Sha.spread_length]; omega))
    rwa [add_plain] at this
  have hws' := Lib.hid hws
  have hg2 : w.heap.size + 2 ≤ g := by simpa using hg0
  clear hown hb hws hg0
  have b0 := hbox.cell 0
  have b1 := hbox.cell 1
  have b2 := hbox.cell 2
  have b3 := hbox.cell 3
  have b4 := hbox.cell 4
  have b5 := hbox.cell 5
  have b6 := hbox.cell 6
  have b7 := hbox.cell 7
  simp only [List.map_cons, List.map_nil, List.getElem?_cons_zero, List.getElem?_cons_succ] at b0 b1 b2 b3 b4 b5 b6 b7
  go_wp2_with fail
  go_loopw [7] (fun v wr => ∃ n : Nat, n ≤ 64 ∧ v = .int .i64 n ∧ ∃ X : List (BitVec 32), X.length = 8 ∧ Hid (X = Sha.rounds [a0, a1, a2, a3, a4, a5, a6, a7] (Sha.spread b) n) ∧ Rel w1.heap.size w1 wr (X.map eu)) (fun v _ => 64 - (intOf v).toNat)
  case atStart => exact ⟨0, by omega, rfl, [a0, a1, a2, a3, a4, a5, a6, a7], rfl, rfl, (Below.refl _ _).alloc (Nat.le_refl _) _, Arr.new w1 55 ([a0, a1, a2, a3, a4, a5, a6, a7].map eu)⟩
  case round =>
    clear b0 b1 b2 b3 b4 b5 b6 b7
    obtain ⟨n, hn, rfl, X, hX, hXe, hI⟩ := hrel
    obtain ⟨x0, x1, x2, x3, x4, x5, x6, x7, rfl⟩ := list8 X hX
    clear hX
    by_cases hlt : n < 64
    · have hws := hws'.out n hlt
      have ck := cell_tab (hT1.below hI.below).k n (by simpa [Sha.ks] using hlt)
      have hwn : wr.cell? ⟨g, n, none⟩ = some (eu (Sha.w32 (Sha.spread b) n)) := (hI.below.cell (p := ⟨g, n, none⟩) hg1).trans hws
      clear hws
      have c0 := hI.x.cell 0
      have c1 := hI.x.cell 1
      have c2 := hI.x.cell 2
      have c3 := hI.x.cell 3
      have c4 := hI.x.cell 4
      have c5 := hI.x.cell 5
      have c6 := hI.x.cell 6
      have c7 := hI.x.cell 7
      simp only [List.map_cons, List.map_nil, List.getElem?_cons_zero, List.getElem?_cons_succ] at c0 c1 c2 c3 c4 c5 c6 c7
      have x1' : 0 ≤ (n : Int) := by omega
      have x2' : (n : Int) < 64 := by omega
      go_wp2_with ((go_at_call 43; first | (with_reducible refine (Rot.rot_6 _ _).mono ?_) | (with_reducible refine (Rot.rot_11 _ _).mono ?_) | (with_reducible refine (Rot.rot_25 _ _).mono ?_) | (with_reducible refine (Rot.rot_2 _ _).mono ?_) | (with_reducible refine (Rot.rot_13 _ _).mono ?_) | (with_reducible refine (Rot.rot_22 _ _).mono ?_)); rintro e w' ⟨rfl, rfl⟩)
      go_quiet (fail)
      clear c0 c1 c2 c3 c4 c5 c6 c7 hwn ck
      replace hI := hI.drewN nq
      generalize wr.drewN nq = w2 at hI ⊢
      have c0 := hI.x.cell 0
      have c1 := hI.x.cell 1
      have c2 := hI.x.cell 2
      simp only [List.map_cons, List.map_nil, List.getElem?_cons_zero, List.getElem?_cons_succ] at c0 c1 c2
      go_wp2_with ((go_at_call 43; first | (with_reducible refine (Rot.rot_6 _ _).mono ?_) | (with_reducible refine (Rot.rot_11 _ _).mono ?_) | (with_reducible refine (Rot.rot_25 _ _).mono ?_) | (with_reducible refine (Rot.rot_2 _ _).mono ?_) | (with_reducible refine (Rot.rot_13 _ _).mono ?_) | (with_reducible refine (Rot.rot_22 _ _).mono ?_)); rintro e w' ⟨rfl, rfl⟩)
      clear c0 c1 c2
      go_loopw [15] (fun v wi => ∃ i : Nat, i ≤ 7 ∧ v = .int .i64 i ∧ Rel w1.heap.size w1 wi ((shf [x0, x1, x2, x3, x4, x5, x6, x7] i).map eu)) (fun v _ => (intOf v).toNat)
      case atStart => exact ⟨7, by omega, rfl, hI⟩
      case round =>
        obtain ⟨i, hi, rfl, hJ⟩ := hrel
        by_cases hi0 : 0 < i
        · have d0 : wr.cell? ⟨w1.heap.size, i - 1, none⟩ = some (eu (Sha.w32 [x0, x1, x2, x3, x4, x5, x6, x7] (i - 1))) := by rw [hJ.x.cell, shf_at _ _ _ _ _ _ _ _ i hi0 hi]
          have d1 : wr.cell? ⟨w1.heap.size, i, none⟩ = some (eu (Sha.w32 [x0, x1, x2, x3, x4, x5, x6, x7] i)) := by rw [hJ.x.cell, shf_here _ _ _ _ _ _ _ _ i hi0 hi]
          have d2 := hJ.x.free i
          go_wp2_with fail
          go_roundw
          case rel => exact ⟨i - 1, by omega, congrArg (Value.int .i64) (by omega), hJ.set _ _ (shf_set _ _ _ _ _ _ _ _ i hi0 hi)⟩
          case measure => simp [intOf]; omega
        · have hi00 := Lib.hid (show i = 0 by omega)
          have e4 : wr.cell? ⟨w1.heap.size, 4, none⟩ = some (eu x3) := by rw [hJ.x.cell, hi00.out]; rfl
          have e0 : wr.cell? ⟨w1.heap.size, 0, none⟩ = some (eu x0) := by rw [hJ.x.cell, hi00.out]; rfl
          have f4 := hJ.x.free 4
          have f0 := hJ.x.free 0
          go_wp2_with fail
          go_roundw
          case rel =>
            refine ⟨n + 1, by omega, by go_num, Sha.round [x0, x1, x2, x3, x4, x5, x6, x7] (Sha.w32 Sha.ks n) (Sha.w32 (Sha.spread b) n), rfl, ?_, ?_⟩
            · have h1 := hXe.out
              show _ = Sha.rounds _ _ (n + 1)
              rw [Sha.rounds, ← h1]
            · refine (hJ.set _ _ rfl).set _ _ ?_
              rw [hi00.out, BitVec.add_assoc (x7 + (Sha.rotr x4 6 ^^^ Sha.rotr x4 11 ^^^ Sha.rotr x4 25) + (x4 &&& x5 ^^^ ~~~x4 &&& x6) + Sha.w32 Sha.ks n + Sha.w32 (Sha.spread b) n)]
              rfl
          case measure => simp [intOf]; omega
    · have hn64 := Lib.hid (show n = 64 by omega)
      obtain ⟨X, hX8, hXX⟩ : ∃ X : List (BitVec 32), X.length = 8 ∧ [x0, x1, x2, x3, x4, x5, x6, x7] = X := ⟨_, rfl, rfl⟩
      rw [hXX] at hXe hI
      have hX8' := Lib.hid hX8
      clear hXX hX8
      have hh' := Lib.hid hh
      clear hh
      have hB1 := hbox.lt
      have hbx : Arr wr w.heap.size 55 ([a0, a1, a2, a3, a4, a5, a6, a7].map eu) := (hI.below.block _ hbox.lt).trans hbox
      have hrs : Arr wr (w.heap.size + 1) 55 ((List.replicate 8 0).map eu) := (hI.below.block _ hres.lt).trans hres
      have hG : w.heap.size + 2 ≤ w1.heap.size := by have := hres.lt; omega
      have hJ0 : Changed3 w.heap.size w1.heap.size w wr (mix [a0, a1, a2, a3, a4, a5, a6, a7] X 0) X := ⟨hbw.trans (hI.below.mono hbw.size), hbx, hrs, hI.x⟩
      clear hbx hrs hI hws' hbox hres hbw hT1 hT
      go_wp2_with fail
      go_loopw [16] (fun v wi => ∃ i : Nat, i ≤ 8 ∧ v = .int .i64 i ∧ Changed3 w.heap.size w1.heap.size w wi (mix [a0, a1, a2, a3, a4, a5, a6, a7] X i) X) (fun v _ => 8 - (intOf v).toNat)
      case atStart => exact ⟨0, by omega, rfl, hJ0⟩
      case round =>
        obtain ⟨i, hi, rfl, hJ⟩ := hrel
        by_cases hli : i < 8
        · have c1 := mix_at _ _ hh'.out hX8'.out i hli
          have c2 := hJ.box.cell i
          rw [List.getElem?_map, c1] at c2
          have c3 : wr.cell? ⟨w1.heap.size, i, none⟩ = some (eu (Sha.w32 X i)) := by
            have h8 := hX8'.out
            rw [hJ.x.cell]; simp [h8, hli, Sha.w32]
          simp only [Option.map_some] at c2
          clear c1
          go_wp2_with fail
          go_still_tail 9, (by kernel_rfl)
          replace hJ : Changed3 w.heap.size w1.heap.size w { wr with drawn := wr.drawn + 1 } (mix [a0, a1, a2, a3, a4, a5, a6, a7] X i) X := hJ.drewN 1
          clear c2 c3
          generalize ({ wr with drawn := wr.drawn + 1 } : World) = w3 at hJ ⊢
          have c1 := mix_at _ _ hh'.out hX8'.out i hli
          have c2 := hJ.box.cell i
          rw [List.getElem?_map, c1] at c2
          have hf := hJ.box.free i
          simp only [Option.map_some] at c2
          clear c1
          go_wp2_with fail
          go_roundw
          case rel =>
            refine ⟨i + 1, by omega, by go_num, ?_⟩
            rw [← mix_set _ _ hh'.out hX8'.out i hli]
            exact hJ.setBox hG i _
          case measure => simp [intOf]; omega
        · have hi8 := Lib.hid (show i = 8 by omega)
          have hbx : Arr wr w.heap.size 55 ((Sha.block [a0, a1, a2, a3, a4, a5, a6, a7] b).map eu) := by
            have h1 := hJ.box
            rw [hi8.out, hXe.out, hn64.out] at h1
            have h2 : mix [a0, a1, a2, a3, a4, a5, a6, a7] (Sha.rounds [a0, a1, a2, a3, a4, a5, a6, a7] (Sha.spread b) 64) 8 = Sha.block [a0, a1, a2, a3, a4, a5, a6, a7] b := by
              have h3 := Sha.rounds_length [a0, a1, a2, a3, a4, a5, a6, a7] (Sha.spread b) rfl 64
              unfold mix Sha.block
              rw [List.take_of_length_le (by simp [h3])]
              simp
            rwa [h2] at h1
          have hl : (Sha.block [a0, a1, a2, a3, a4, a5, a6, a7] b).length = 8 := Sha.block_length _ _ rfl
          obtain ⟨R, hRR⟩ : ∃ R, R = (Sha.block [a0, a1, a2, a3, a4, a5, a6, a7] b).map eu := ⟨_, rfl⟩
          have hsz : R.toArray.size = 8 := by rw [hRR]; simp [hl]
          have hone : R.toArray.all (·.oneCell') = true := by rw [hRR]; simp [Value.oneCell']
          rw [← hRR] at hbx
          have hRH := Lib.hid hRR
          have hinf : (Tryd.prog.info? 55).map (·.size) = some R.toArray.size := (by kernel_rfl : (Tryd.prog.info? 55).map (·.size) = some 8).trans (congrArg some hsz.symm)
          have hrs := hJ.res
          have HB := hJ.below
          clear hRR hl
          go_wp2_with (first
            | ((with_reducible refine wpList_load_row (o := ⟨some 118, Op.load 55 (.tmp 2), _, _, _, none⟩) ?k1 55 (.tmp 2) ?k2 w.heap.size ?k3 55 R.toArray (0, 0) (.array 8 54) ?k4 Tryd.underlying55 ?k5 hinf ?k6); (case k1 => rfl); (case k2 => rfl); (case k3 => rfl); (case k4 => exact hbx); (case k5 => rfl))
            | ((with_reducible refine wpList_store_row (o := ⟨none, Op.store 55 (.tmp 4) (.tmp 118), _, _, _, none⟩) ?l1 55 (.tmp 4) (.tmp 118) ?l2 (w.heap.size + 1) R.toArray ?l3 ?l4 55 ?l5 ?l6 hinf ?l7 hone ?l8); (case l1 => rfl); (case l2 => rfl); (case l3 => rfl); (case l4 => rfl); (case l6 => exact hrs); (case l7 => simp [hsz])))
          have hst : (wr.setRow (w.heap.size + 1) R.toArray).heap[w.heap.size + 1]? = some (.cells R.toArray 55 (0, 0)) := hrs.setRow R
          refine bodyPost_ret (v := .agg R.toArray) ?_ rfl ⟨by rw [hRH.out], below_setRow HB (by omega) _⟩
          exact results_cell_row (by rfl) _ _ (w.heap.size + 1) 55 R.toArray (0, 0) _ (by rfl) hst Tryd.underlying55 (by rfl) hinf
end Go.Proofs.YtcelojkecfiocaaDoor.RefChange
