/- words.changed: eight words, changed by a block of 64 bytes, as the document says. Conditions: the block can be read; the tables hold their constants. -/
import Derived.Test.YtcelojkecfiocaaDoorSpread
import Derived.Deep.DeepFit
import Derived.Deep.DeepCutAuto
namespace Go.Proofs.YtcelojkecfiocaaDoor.Changed
open Go.RowKit Go.Proofs.YtcelojkecfiocaaDoor.Bv Go.Proofs.YtcelojkecfiocaaDoor.Mem
open Go.Proofs.YtcelojkecfiocaaDoorW.PrintWords

/-- The hash's two tables of constants stand in their blocks. -/
structure Tabs (w : World) : Prop where
  start : ∃ t fr, w.heap[1]? = some (.cells (Sha.iv.map eu).toArray t fr)
  rounds : ∃ t fr, w.heap[3]? = some (.cells (Sha.ks.map eu).toArray t fr)
  size : 4 ≤ w.heap.size
/-- The reference's two. -/
structure RTabs (w : World) : Prop where
  first : ∃ t fr, w.heap[0]? = some (.cells (Sha.iv.map eu).toArray t fr)
  k : ∃ t fr, w.heap[2]? = some (.cells (Sha.ks.map eu).toArray t fr)
  size : 4 ≤ w.heap.size
theorem Tabs.heap {w w' : World} (h : Tabs w) (e : ∀ g, g < 4 → w'.heap[g]? = w.heap[g]?) (hs : w.heap.size ≤ w'.heap.size) : Tabs w' :=
  ⟨by rw [e 1 (by omega)]; exact h.start, by rw [e 3 (by omega)]; exact h.rounds, Nat.le_trans h.size hs⟩
theorem RTabs.heap {w w' : World} (h : RTabs w) (e : ∀ g, g < 4 → w'.heap[g]? = w.heap[g]?) (hs : w.heap.size ≤ w'.heap.size) : RTabs w' :=
  ⟨by rw [e 0 (by omega)]; exact h.first, by rw [e 2 (by omega)]; exact h.k, Nat.le_trans h.size hs⟩
theorem Tabs.below {w w' : World} (h : Tabs w) (hb : Below w.heap.size w w') : Tabs w' := h.heap (fun g hg => hb.block g (by have := h.size; omega)) hb.size
theorem RTabs.below {w w' : World} (h : RTabs w) (hb : Below w.heap.size w w') : RTabs w' := h.heap (fun g hg => hb.block g (by have := h.size; omega)) hb.size
theorem Tabs.setRow {w : World} (h : Tabs w) {g : Nat} (hg : 4 ≤ g) (cs : Array Value) : Tabs (w.setRow g cs) := h.heap (fun k hk => setRow_other w g k cs (by omega)) (by simp)
theorem RTabs.setRow {w : World} (h : RTabs w) {g : Nat} (hg : 4 ≤ g) (cs : Array Value) : RTabs (w.setRow g cs) := h.heap (fun k hk => setRow_other w g k cs (by omega)) (by simp)
theorem Tabs.drewN {w : World} (h : Tabs w) (n : Nat) : Tabs (w.drewN n) := ⟨h.start, h.rounds, h.size⟩
theorem RTabs.drewN {w : World} (h : RTabs w) (n : Nat) : RTabs (w.drewN n) := ⟨h.first, h.k, h.size⟩
theorem cell_tab {w : World} {g : Nat} {L : List (BitVec 32)} (h : ∃ t fr, w.heap[g]? = some (.cells (L.map eu).toArray t fr)) (i : Nat) (hi : i < L.length) : w.cell? ⟨g, i, none⟩ = some (eu (Sha.w32 L i)) := by
  obtain ⟨t, fr, h⟩ := h
  rw [cell_of_row w g i _ t fr h]
  simp [hi, Sha.w32]
theorem index_words {L : List (BitVec 32)} (n : Nat) (hL : L.length = 64) (hn : n < 64) (W : World) :
    (Instr.index 68 (.agg (L.map eu).toArray) (.int .i64 (n : Int))).run Tryd.prog W = .ok (eu (Sha.w32 L n)) W := by
  have h64 : Tryd.prog.underlying 68 = some (.array 64 54) := Tryd.underlying68
  have hs : (sizeOf 54).run Tryd.prog W = .ok 1 W := by kernel_rfl
  simp [Instr.index, asIntOf, Sem.run_bind, run_underlying h64, hs, part, hL, hn, Sha.w32]


structure Rel (B : Nat) (w wr : World) (bx X : List (BitVec 32)) : Prop where
  below : Below B w wr
  box : Arr wr B 57 (bx.map eu)
  res : Arr wr (B + 1) 57 ((List.replicate 8 0).map eu)
  x : Arr wr (B + 2) 57 (X.map eu)

theorem Rel.start {w w1 : World} {a : List (BitVec 32)} (hb : Below (((w.alloc (.cells (a.map eu).toArray 57)).alloc (.cells ((List.replicate 8 0).map eu).toArray 57)).alloc (.cells (a.map eu).toArray 57)).heap.size (((w.alloc (.cells (a.map eu).toArray 57)).alloc (.cells ((List.replicate 8 0).map eu).toArray 57)).alloc (.cells (a.map eu).toArray 57)) w1) : Rel w.heap.size w w1 a a := by
  have h1 := Arr.new w 57 (a.map eu)
  have h2 := Arr.new (w.alloc (.cells (a.map eu).toArray 57)) 57 ((List.replicate 8 0).map eu)
  have h3 := Arr.new ((w.alloc (.cells (a.map eu).toArray 57)).alloc (.cells ((List.replicate 8 0).map eu).toArray 57)) 57 (a.map eu)
  refine ⟨Below.trans (((Below.refl _ _).alloc (Nat.le_refl _) _).alloc (by simp) _ |>.alloc (by simp; omega) _) (hb.mono (by simp; omega)), ((h1.alloc _).alloc _).below hb, ?_, ?_⟩
  · have := (h2.alloc (.cells (a.map eu).toArray 57)).below hb
    simpa using this
  · have := h3.below hb
    simpa using this
theorem Rel.keep {B : Nat} {w w1 w2 : World} {a X : List (BitVec 32)} (h : Rel B w w1 a X) (hb : Below w1.heap.size w1 w2) (hB : B ≤ w1.heap.size) : Rel B w w2 a X :=
  ⟨h.below.trans (hb.mono hB), h.box.below hb, h.res.below hb, h.x.below hb⟩
theorem Rel.drewN {B : Nat} {w wr : World} {a X : List (BitVec 32)} (h : Rel B w wr a X) (n : Nat) : Rel B w (wr.drewN n) a X :=
  ⟨below_drewN h.below n, h.box, h.res, h.x⟩
theorem Rel.setX {B : Nat} {w wr : World} {a X : List (BitVec 32)} (h : Rel B w wr a X) (Y : List (BitVec 32)) : Rel B w (wr.setRow (B + 2) (Y.map eu).toArray) a Y :=
  ⟨below_setRow h.below (by omega) _, h.box.setRow_other (by omega) _, h.res.setRow_other (by omega) _, h.x.setRow _⟩
theorem Rel.setBox {B : Nat} {w wr : World} {a X : List (BitVec 32)} (h : Rel B w wr a X) (i : Nat) (v : BitVec 32) : Rel B w (wr.setCell ⟨B, i, none⟩ (eu v)) (a.set i v) X :=
  ⟨below_setCell h.below (by simp) _, by have := h.box.set i (eu v); rwa [← List.map_set] at this, h.res.other (by simp) _, h.x.other (by simp) _⟩
/-- The words under way: the first i are summed. -/
def mix (h X : List (BitVec 32)) (i : Nat) : List (BitVec 32) := (List.zipWith (· + ·) h X).take i ++ h.drop i
theorem mix_length (h X : List (BitVec 32)) (hh : h.length = 8) (hX : X.length = 8) (i : Nat) (hi : i ≤ 8) : (mix h X i).length = 8 := by
  simp [mix, hh, hX]; omega
theorem mix_at (h X : List (BitVec 32)) (hh : h.length = 8) (hX : X.length = 8) (i : Nat) (hi : i < 8) : (mix h X i)[i]? = some (Sha.w32 h i) := by
  unfold mix
  rw [List.getElem?_append_right (by simp; omega)]
  simp [hh, hX, Sha.w32, hi]
  rw [show i + (i - min i 8) = i by omega]
  simp [hh, hi]
theorem mix_set (h X : List (BitVec 32)) (hh : h.length = 8) (hX : X.length = 8) (i : Nat) (hi : i < 8) : (mix h X i).set i (Sha.w32 h i + Sha.w32 X i) = mix h X (i + 1) := by
  unfold mix
  have hl : ((List.zipWith (· + ·) h X).take i).length = i := by simp [hh, hX]; omega
  rw [List.drop_eq_getElem_cons (show i < h.length by omega), set_mid _ _ _ _ _ hl, List.take_succ_eq_append_getElem (show i < (List.zipWith (· + ·) h X).length by simp [hh, hX]; omega)]
  simp [Sha.w32, hh, hX, hi]

theorem list8 {α : Type} (X : List α) (h : X.length = 8) : ∃ a b c d e f g i, X = [a, b, c, d, e, f, g, i] := by
  match X, h with
  | [a, b, c, d, e, f, g, i], _ => exact ⟨a, b, c, d, e, f, g, i, rfl⟩

set_option maxRecDepth 100000 in
set_option maxHeartbeats 400000 in
theorem changed_any (h : List (BitVec 32)) (hh : h.length = 8) (A : Option Addr) (c : Nat) (b : List UInt8) (w : World) (hT : Tabs w) (hr : ReadsOf eb 0 w A 64 b) (hc : 64 ≤ c) :
    Calls Tryd.prog 38 #[.agg (h.map eu).toArray, .slice A 64 c] w fun e w' => e = .returned (.agg ((Sha.block h b).map eu).toArray) ∧ Below w.heap.size w w' := by
  obtain ⟨a0, a1, a2, a3, a4, a5, a6, a7, rfl⟩ := list8 h hh
  go_enter Tryd.func38, Tryd.ntmps38
  go_wp2_with fail
  refine (Spread.spread_any A c b _ (hr.below ((((Below.refl _ _).alloc (Nat.le_refl _) _).alloc (by simp) _).alloc (by simp; omega) _)) hc).mono ?_
  rintro e w1 ⟨rfl, hb⟩
  have hR := Rel.start (a := [a0, a1, a2, a3, a4, a5, a6, a7]) hb
  have hT1 : Tabs w1 := hT.below hR.below
  have hix := fun (n : Nat) (hn : n < 64) W => index_words (L := Sha.spread b) n (Sha.spread_length b) hn W
  have hix' := Lib.hid hix
  clear hix hb
  go_wp2_with fail
  go_loopw [18] (fun v wr => ∃ n : Nat, n ≤ 64 ∧ v = .int .i64 n ∧ ∃ X : List (BitVec 32), X.length = 8 ∧ Hid (X = Sha.rounds [a0, a1, a2, a3, a4, a5, a6, a7] (Sha.spread b) n) ∧ Tabs wr ∧ Rel w.heap.size w wr [a0, a1, a2, a3, a4, a5, a6, a7] X) (fun v _ => 64 - (intOf v).toNat)
  case atStart => exact ⟨0, by omega, rfl, _, rfl, rfl, hT1, hR⟩
  case round =>
    obtain ⟨n, hn, rfl, X, hX, hXe, hTr, hI⟩ := hrel
    obtain ⟨x0, x1, x2, x3, x4, x5, x6, x7, rfl⟩ := list8 X hX
    clear hX
    by_cases hlt : n < 64
    · have hi := hix'.out n hlt
      have c0 := hI.x.cell 0
      have c1 := hI.x.cell 1
      have c2 := hI.x.cell 2
      have c3 := hI.x.cell 3
      have c4 := hI.x.cell 4
      have c5 := hI.x.cell 5
      have c6 := hI.x.cell 6
      have c7 := hI.x.cell 7
      have ck := cell_tab hTr.rounds n (by simpa [Sha.ks] using hlt)
      simp only [List.map_cons, List.map_nil, List.getElem?_cons_zero, List.getElem?_cons_succ] at c0 c1 c2 c3 c4 c5 c6 c7
      go_wp2_with ((go_at_call 45; first | (with_reducible refine (Rot.rotl_6 _ _).mono ?_) | (with_reducible refine (Rot.rotl_11 _ _).mono ?_) | (with_reducible refine (Rot.rotl_25 _ _).mono ?_) | (with_reducible refine (Rot.rotl_2 _ _).mono ?_) | (with_reducible refine (Rot.rotl_13 _ _).mono ?_) | (with_reducible refine (Rot.rotl_22 _ _).mono ?_)); rintro e w' ⟨rfl, rfl⟩)
      go_quiet (fail)
      replace hI := hI.drewN nq
      replace hTr : Tabs (wr.drewN nq) := ⟨hTr.start, hTr.rounds, hTr.size⟩
      clear c0 c1 c2 c3 c4 c5 c6 c7 ck
      generalize wr.drewN nq = w2 at hI hTr ⊢
      have c0 := hI.x.cell 0
      have c1 := hI.x.cell 1
      have c2 := hI.x.cell 2
      have c3 := hI.x.cell 3
      have c4 := hI.x.cell 4
      have c5 := hI.x.cell 5
      have c6 := hI.x.cell 6
      simp only [List.map_cons, List.map_nil, List.getElem?_cons_zero, List.getElem?_cons_succ] at c0 c1 c2 c3 c4 c5 c6
      have hx := hI.x
      go_wp2_with fail
      refine (Rot.rotl_2 _ _).mono ?_
      rintro e w' ⟨rfl, rfl⟩
      go_wp2_with fail
      refine (Rot.rotl_13 _ _).mono ?_
      rintro e w' ⟨rfl, rfl⟩
      go_wp2_with (first | ((go_at_call 45; first | (with_reducible refine (Rot.rotl_2 _ _).mono ?_) | (with_reducible refine (Rot.rotl_13 _ _).mono ?_) | (with_reducible refine (Rot.rotl_22 _ _).mono ?_)); rintro e w' ⟨rfl, rfl⟩) | ((with_reducible refine wpList_store_row (o := ⟨none, Op.store 57 (.tmp 5) (.tmp 99), _, _, _, none⟩) ?g1 57 (.tmp 5) (.tmp 99) ?g2 (w.heap.size + 2) ?cells ?x1 ?x2 57 ?old ?xh ?x3 ?x4 ?x5 ?x6); (case g1 => rfl); (case g2 => rfl); (case x1 => rfl); (case x2 => rfl); (case xh => exact hx); (case x3 => exact (by kernel_rfl : (Tryd.prog.info? 57).map (·.size) = some 8)); (case x4 => simp); (case x5 => simp [Value.oneCell'])))
      go_roundw
      case rel =>
        refine ⟨n + 1, by omega, by go_num, [_, _, _, _, _, _, _, _], rfl, ?_, ?_, hI.setX [_, _, _, _, _, _, _, _]⟩
        · have h1 := hXe.out
          show _ = Sha.rounds _ _ (n + 1)
          rw [Sha.rounds, ← h1]
          rfl
        · exact hTr.setRow (by have := hT.size; omega) _
      case measure => simp [intOf]; omega
    · have hn64 := Lib.hid (show n = 64 by omega)
      obtain ⟨X, hX8, hXX⟩ : ∃ X : List (BitVec 32), X.length = 8 ∧ [x0, x1, x2, x3, x4, x5, x6, x7] = X := ⟨_, rfl, rfl⟩
      rw [hXX] at hXe hI
      have hX8' := Lib.hid hX8
      clear hXX hX8
      have hh' := Lib.hid hh
      clear hh hix'
      go_wp2_with fail
      go_loopw [101] (fun v wi => ∃ i : Nat, i ≤ 8 ∧ v = .int .i64 i ∧ Rel w.heap.size w wi (mix [a0, a1, a2, a3, a4, a5, a6, a7] X i) X) (fun v _ => 8 - (intOf v).toNat)
      case atStart => exact ⟨0, by omega, rfl, hI⟩
      case round =>
        obtain ⟨i, hi, rfl, hJ⟩ := hrel
        by_cases hli : i < 8
        · have c1 := mix_at _ _ hh'.out hX8'.out i hli
          have c2 := hJ.box.cell i
          rw [List.getElem?_map, c1] at c2
          have c3 : wr.cell? ⟨w.heap.size + 2, i, none⟩ = some (eu (Sha.w32 X i)) := by
            have h8 := hX8'.out
            rw [hJ.x.cell]; simp [h8, hli, Sha.w32]
          have hf := hJ.box.free i
          simp only [Option.map_some] at c2
          clear c1
          go_wp2_with fail
          go_still_tail 8, (by kernel_rfl)
          replace hJ : Rel w.heap.size w { wr with drawn := wr.drawn + 1 } (mix [a0, a1, a2, a3, a4, a5, a6, a7] X i) X := hJ.drewN 1
          clear c2 c3 hf
          generalize ({ wr with drawn := wr.drawn + 1 } : World) = w3 at hJ ⊢
          have c1 := mix_at _ _ hh'.out hX8'.out i hli
          have c2 := hJ.box.cell i
          rw [List.getElem?_map, c1] at c2
          have hf := hJ.box.free i
          simp only [Option.map_some] at c2
          clear c1
          go_wp2_with fail
          go_roundw
          case rel =>
            refine ⟨i + 1, by omega, by go_num, ?_⟩
            rw [← mix_set _ _ hh'.out hX8'.out i hli]
            exact hJ.setBox i _
          case measure => simp [intOf]; omega
        · have hi8 := Lib.hid (show i = 8 by omega)
          have hbx : Arr wr w.heap.size 57 ((Sha.block [a0, a1, a2, a3, a4, a5, a6, a7] b).map eu) := by
            have h1 := hJ.box
            rw [hi8.out, hXe.out, hn64.out] at h1
            have h2 : mix [a0, a1, a2, a3, a4, a5, a6, a7] (Sha.rounds [a0, a1, a2, a3, a4, a5, a6, a7] (Sha.spread b) 64) 8 = Sha.block [a0, a1, a2, a3, a4, a5, a6, a7] b := by
              have h3 := Sha.rounds_length [a0, a1, a2, a3, a4, a5, a6, a7] (Sha.spread b) rfl 64
              unfold mix Sha.block
              rw [List.take_of_length_le (by simp [h3])]
              simp
            rwa [h2] at h1
          have hl : (Sha.block [a0, a1, a2, a3, a4, a5, a6, a7] b).length = 8 := Sha.block_length _ _ rfl
          obtain ⟨R, hRR⟩ : ∃ R, R = (Sha.block [a0, a1, a2, a3, a4, a5, a6, a7] b).map eu := ⟨_, rfl⟩
          have hsz : R.toArray.size = 8 := by rw [hRR]; simp [hl]
          have hone : R.toArray.all (·.oneCell') = true := by rw [hRR]; simp [Value.oneCell']
          rw [← hRR] at hbx
          have hRH := Lib.hid hRR
          have hinf : (Tryd.prog.info? 57).map (·.size) = some R.toArray.size := (by kernel_rfl : (Tryd.prog.info? 57).map (·.size) = some 8).trans (congrArg some hsz.symm)
          have hres := hJ.res
          have HB := hJ.below
          clear hRR hl
          go_wp2_with (first
            | ((with_reducible refine wpList_load_row (o := ⟨some 113, Op.load 57 (.tmp 2), _, _, _, none⟩) ?k1 57 (.tmp 2) ?k2 w.heap.size ?k3 57 R.toArray (0, 0) (.array 8 54) ?k4 Tryd.underlying57 ?k5 hinf ?k6); (case k1 => rfl); (case k2 => rfl); (case k3 => rfl); (case k4 => exact hbx); (case k5 => rfl))
            | ((with_reducible refine wpList_store_row (o := ⟨none, Op.store 57 (.tmp 4) (.tmp 113), _, _, _, none⟩) ?l1 57 (.tmp 4) (.tmp 113) ?l2 (w.heap.size + 1) R.toArray ?l3 ?l4 57 ?l5 ?l6 hinf ?l7 hone ?l8); (case l1 => rfl); (case l2 => rfl); (case l3 => rfl); (case l4 => rfl); (case l6 => exact hres); (case l7 => simp [hsz])))
          have hst : (wr.setRow (w.heap.size + 1) R.toArray).heap[w.heap.size + 1]? = some (.cells R.toArray 57 (0, 0)) := hres.setRow R
          refine bodyPost_ret (v := .agg R.toArray) ?_ rfl ⟨by rw [hRH.out], below_setRow HB (by omega) _⟩
          exact results_cell_row (by rfl) _ _ (w.heap.size + 1) 57 R.toArray (0, 0) _ (by rfl) hst Tryd.underlying57 (by rfl) hinf
end Go.Proofs.YtcelojkecfiocaaDoor.Changed
