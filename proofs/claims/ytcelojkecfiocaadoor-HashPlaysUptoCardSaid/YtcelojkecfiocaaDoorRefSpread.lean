/- The reference's spread makes of a block of 64 bytes its 64 words, in a new slice. Conditions: the block can be read. -/
import Derived.Test.YtcelojkecfiocaaDoorRot
import Derived.Test.YtcelojkecfiocaaDoorMem
import Derived.Test.YtcelojkecfiocaaDoorShaRef
import Derived.Deep.RegionLaw
import Derived.Deep.AppendLies
import Derived.Lib.Hide
import Derived.Outline
namespace Go.Proofs.YtcelojkecfiocaaDoor.RefSpread
open Go.RowKit Go.Proofs.YtcelojkecfiocaaDoor.Bv Go.Proofs.YtcelojkecfiocaaDoor.Mem
open Go.Proofs.YtcelojkecfiocaaDoorW.PrintWords

theorem info54 : (Tryd.prog.info? 54).map (fun i => (i.zero, i.size, i.bytes)) = some (some (.int .u32 0), 1, 4) := by kernel_rfl

theorem nxt_alt (L : List (BitVec 32)) (i : Nat) (h : L.length = i) :
    Sha.w32 L (i - 16) + Sha.w32 L (i - 7) + (Sha.rotr (Sha.w32 L (i - 15)) 7 ^^^ Sha.rotr (Sha.w32 L (i - 15)) 18 ^^^ Sha.w32 L (i - 15) >>> 3) + (Sha.rotr (Sha.w32 L (i - 2)) 17 ^^^ Sha.rotr (Sha.w32 L (i - 2)) 19 ^^^ Sha.w32 L (i - 2) >>> 10) = Sha.nxt L := by
  subst h
  show _ = Sha.w32 L (L.length - 16) + Sha.sg0 (Sha.w32 L (L.length - 15)) + Sha.w32 L (L.length - 7) + Sha.sg1 (Sha.w32 L (L.length - 2))
  rw [BitVec.add_assoc (Sha.w32 L (L.length - 16)) (Sha.sg0 _), BitVec.add_comm (Sha.sg0 _), ← BitVec.add_assoc]
  rfl
def Post (w : World) (b : List UInt8) (e : Ending) (w' : World) : Prop :=
  ∃ v, e = .returned v ∧ w'.ownsRow w.heap.size 54 1 v 64 (encs eu (Sha.spread b)) ∧ Below w.heap.size w w'

structure Rel (B : Nat) (w wr : World) (v : Value) (L : List (BitVec 32)) : Prop where
  below : Below B w wr
  own : wr.ownsRow B 54 1 v L.length (encs eu L)

set_option maxRecDepth 100000 in
set_option maxHeartbeats 400000 in
theorem spread_any (A : Option Addr) (c : Nat) (b : List UInt8) (w : World) (hr : ReadsOf eb 0 w A 64 b) :
    Calls Tryd.prog 42 #[.slice A 64 c] w (Post w b) := by
  obtain ⟨ad, rfl⟩ := reads_some hr (by omega)
  go_enter Tryd.func42, Tryd.ntmps42
  go_wp2_with fail
  go_loopw [4, 3] (fun i v wr => ∃ k : Nat, k ≤ 16 ∧ i = .int .i64 k ∧ Rel w.heap.size w wr v (Sha.words b k)) (fun i _ _ => 16 - (intOf i).toNat)
  case atStart => exact ⟨0, by omega, rfl, Below.refl _ _, own_nil _ _ _ _⟩
  case round =>
    obtain ⟨k, hk, rfl, hI⟩ := hrel
    by_cases hlt : k < 16
    · have get : ∀ (wz : World) (v : Value) (j : Nat), Rel w.heap.size w wz v (Sha.words b k) → j < 64 → wz.cell? (ad.add j) = some (eb (Sha.b8 b j)) := fun wz v j hz hj => reads_cell (hr.below hz.below) j hj
      have g0 := get wr _ (4 * k) hI (by omega)
      have g1 := get wr _ (4 * k + 1) hI (by omega)
      have g2 := get wr _ (4 * k + 2) hI (by omega)
      have g3 := get wr _ (4 * k + 3) hI (by omega)
      rw [addr_pos _ _ (by omega)] at g1 g2 g3
      clear get
      go_wp2_with fail
      have y0 : IntKind.i64.wrap (4 * (k : Int)) = 4 * (k : Int) := IntWalk.i64_in _ (by omega)
      have z0 : (4 * (k : Int)).toNat = 4 * k := by omega
      have t0 : 0 ≤ 4 * (k : Int) := by omega
      have s0 : 4 * (k : Int) < 64 := by omega
      have y1 : IntKind.i64.wrap (4 * (k : Int) + 1) = 4 * (k : Int) + 1 := IntWalk.i64_in _ (by omega)
      have z1 : (4 * (k : Int) + 1).toNat = 4 * k + 1 := by omega
      have t1 : 0 ≤ 4 * (k : Int) + 1 := by omega
      have s1 : 4 * (k : Int) + 1 < 64 := by omega
      have y2 : IntKind.i64.wrap (4 * (k : Int) + 2) = 4 * (k : Int) + 2 := IntWalk.i64_in _ (by omega)
      have z2 : (4 * (k : Int) + 2).toNat = 4 * k + 2 := by omega
      have t2 : 0 ≤ 4 * (k : Int) + 2 := by omega
      have s2 : 4 * (k : Int) + 2 < 64 := by omega
      have y3 : IntKind.i64.wrap (4 * (k : Int) + 3) = 4 * (k : Int) + 3 := IntWalk.i64_in _ (by omega)
      have z3 : (4 * (k : Int) + 3).toNat = 4 * k + 3 := by omega
      have t3 : 0 ≤ 4 * (k : Int) + 3 := by omega
      have s3 : 4 * (k : Int) + 3 < 64 := by omega
      go_quiet (fail)
      clear y0 z0 t0 s0 y1 z1 t1 s1 y2 z2 t2 s2 y3 z3 t3 s3
      have hJ : Rel w.heap.size w (wr.drewN nq) u3 (Sha.words b k) := ⟨below_drewN hI.below nq, hI.own⟩
      clear g0 g1 g2 g3 hI
      generalize wr.drewN nq = w2 at hJ ⊢
      go_wp2_with (at_builtin; (with_reducible refine print_append_of (w0 := w) (o := ⟨some 51, _, _, _, _, _⟩) eu w.heap.size ?q1x0 (.tmp 48) (.tmp 50) 65 54 (.int .u32 0) 4 ?q1x1 Tryd.underlying65 info54 ?q1x2 ?q1x3 _ (Sha.words b k) _ ?q1x4 ?q1x5 ?q1x6 hJ.own hJ.below ?q1x7 ?q1x8 ?q1x9); (case q1x0 => rfl); (case q1x1 => rfl); (case q1x2 => rfl); (case q1x3 => omega); (case q1x4 => rfl); (case q1x5 => rfl); (case q1x6 => rfl); (case q1x7 => exact hJ.below.size); (case q1x8 => rw [Sha.words_length]; omega); intro v1 w1 hown hbel _ _)
      refine ⟨⟨k + 1, by omega, by go_num, hbel, ?_⟩, by simp [intOf]; omega⟩
      have hwm := Sha.word_mul (Sha.b8 b (4 * k)) (Sha.b8 b (4 * k + 1)) (Sha.b8 b (4 * k + 2)) (Sha.b8 b (4 * k + 3))
      rw [show Sha.words b (k + 1) = Sha.words b k ++ [Sha.word b k] from rfl, show Sha.word b k = _ from hwm.symm]
      exact hown
    · have hk16 := Lib.hid (show k = 16 by omega)
      go_wp2_with fail
      go_loopw [6, 3] (fun i v wr => ∃ j : Nat, 16 ≤ j ∧ j ≤ 64 ∧ i = .int .i64 j ∧ ∃ L : List (BitVec 32), L.length = j ∧ Hid (L = Sha.ext (Sha.words b 16) (j - 16)) ∧ Rel w.heap.size w wr v L) (fun i _ _ => 64 - (intOf i).toNat)
      case atStart => exact ⟨16, by omega, by omega, rfl, _, Sha.words_length b 16, rfl, by rw [hk16.out] at hI; exact hI⟩
      case round =>
        obtain ⟨i, hi16, hi, rfl, L, hlen, hL, hJ⟩ := hrel
        by_cases hlm : i < 64
        · have hown := hJ.own
          rw [hlen] at hown
          obtain ⟨g, c1, rfl, _, _⟩ := hown.form (by omega)
          have get : ∀ (wz : World) (j : Nat), wz.heap = wr.heap → j < i → wz.cell? ⟨g, j, none⟩ = some (eu (Sha.w32 L j)) := fun wz j hz hj => by
            have := hown.cells (g := g) rfl j (eu (Sha.w32 L j)) (encs_get L j (by omega))
            rw [add_plain] at this
            unfold World.cell? at this ⊢
            rw [hz]
            exact this
          have get' := Lib.hid get
          have hlen' := Lib.hid hlen
          clear get hlen hown
          have h15 := get'.out wr (i - 15) rfl (by omega)
          have h2 := get'.out wr (i - 2) rfl (by omega)
          go_wp2_with (first | ((go_at_call 43; first | (with_reducible refine (Rot.rot_7 _ _).mono ?_) | (with_reducible refine (Rot.rot_18 _ _).mono ?_) | (with_reducible refine (Rot.rot_17 _ _).mono ?_) | (with_reducible refine (Rot.rot_19 _ _).mono ?_)); rintro e w' ⟨rfl, rfl⟩) | ((go_at_call 48; first | (with_reducible refine (Rot.sh_3 _ _).mono ?_) | (with_reducible refine (Rot.sh_10 _ _).mono ?_)); rintro e w' ⟨rfl, rfl⟩))
          have h16 := get'.out wr (i - 16) rfl (by omega)
          have h7 := get'.out wr (i - 7) rfl (by omega)
          have hown : wr.ownsRow w.heap.size 54 1 (.slice (some ⟨g, 0, none⟩) i c1) i (encs eu L) := by
            have h1 := hJ.own
            rwa [hlen'.out] at h1
          have hown' := Lib.hid hown
          have hJ' := Lib.hid hJ
          have hgl := World.block_lt_of_cell? wr _ h16
          have hbw := hJ.below.size
          obtain ⟨i0, hi0, hz0, hz1, hz2⟩ := info_parts info54
          have x5 : 0 ≤ (i : Int) - 16 := by omega
          have x6 : 0 ≤ (i : Int) - 7 := by omega
          have x7 : (i : Int) - 16 < i := by omega
          have x8 : (i : Int) - 7 < i := by omega
          have x9 : 16 ≤ (i : Int) := by omega
          have x10 : 7 ≤ (i : Int) := by omega
          have x1 : IntKind.i64.wrap ((i : Int) - 16) = (i : Int) - 16 := IntWalk.i64_in _ (by omega)
          have x2 : IntKind.i64.wrap ((i : Int) - 7) = (i : Int) - 7 := IntWalk.i64_in _ (by omega)
          have x3 : ((i : Int) - 16).toNat = i - 16 := by omega
          have x4 : ((i : Int) - 7).toNat = i - 7 := by omega
          clear h15 h2 hJ hown
          go_region_law
            ((refine step_append_lies _ (by rfl) _ _ _ (by rfl) w.heap.size 54 i0 _ 1 4 Tryd.underlying65 hi0 hz0 hz1 hz2 rfl (by omega) (.slice (some ⟨g, 0, none⟩) i c1) i (encs eu L) (by rfl) ((hown'.out.alloc _).drew)
                ⟨wr.heap.size, 0, none⟩ 1 1 [(.int .u32 (tn (Sha.w32 L (i - 16) + Sha.w32 L (i - 7) + (Sha.rotr (Sha.w32 L (i - 15)) 7 ^^^ Sha.rotr (Sha.w32 L (i - 15)) 18 ^^^ Sha.w32 L (i - 15) >>> 3) + (Sha.rotr (Sha.w32 L (i - 2)) 17 ^^^ Sha.rotr (Sha.w32 L (i - 2)) 19 ^^^ Sha.w32 L (i - 2) >>> 10))))] (by rfl) (by rfl) (World.news_of_block (cs := #[(.int .u32 (tn (Sha.w32 L (i - 16) + Sha.w32 L (i - 7) + (Sha.rotr (Sha.w32 L (i - 15)) 7 ^^^ Sha.rotr (Sha.w32 L (i - 15)) 18 ^^^ Sha.w32 L (i - 15) >>> 3) + (Sha.rotr (Sha.w32 L (i - 2)) 17 ^^^ Sha.rotr (Sha.w32 L (i - 2)) 19 ^^^ Sha.w32 L (i - 2) >>> 10))))]) (t := 54) (fr := (0, 0)) (heap_alloc_new wr _)) (by simp [Value.oneCell'])
                (by omega) (by unfold maxLen; omega) (by omega) (by simp; omega) (wr.heap.size + 1) (by simp) ?_; intro gg cap w1 hown1 hgrow hat hlt))
          all_goals
            have hrel : Rel w.heap.size w w1 (.slice (some ⟨gg, 0, none⟩) (i + 1) cap) (L ++ [Sha.nxt L]) := by
              refine ⟨(below_drewN (hJ'.out.below.alloc hbw _) 1).grown hgrow (by simp [World.drewN]; omega) (fun k hk => by have := hown'.out.lt k hk; omega), ?_⟩
              have h1 := hown1
              rw [nxt_alt L i hlen'.out] at h1
              have h2 := hlen'.out
              simpa [encs, h2] using h1
            clear hown1 hgrow hat hlt
            go_wp2_with fail
            refine ⟨⟨i + 1, by omega, by omega, by go_num, L ++ [Sha.nxt L], by simp [hlen'.out], ?_, hrel⟩, by simp [intOf]; omega⟩
            have h1 := hL.out
            show L ++ [Sha.nxt L] = _
            rw [h1, show i + 1 - 16 = (i - 16) + 1 by omega]; rfl
        · have hi64 := Lib.hid (show i = 64 by omega)
          go_wp2_with fail
          go_ret
          refine ⟨_, rfl, ?_, hJ.below⟩
          have h1 := hJ.own
          rw [hlen, hi64.out, hL.out, hi64.out] at h1
          exact h1
end Go.Proofs.YtcelojkecfiocaaDoor.RefSpread
