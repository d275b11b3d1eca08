/- The reference's Sum is the digest. Conditions: the bytes can be read and lie within the form's reach; the tables hold their constants. -/
import Derived.Test.YtcelojkecfiocaaDoorRefChange
import Derived.Test.YtcelojkecfiocaaDoorRefFilled
import Derived.Deep.RegionHeld3
namespace Go.Proofs.YtcelojkecfiocaaDoor.RefSum
open Go.RowKit Go.Proofs.YtcelojkecfiocaaDoor.Bv Go.Proofs.YtcelojkecfiocaaDoor.Mem
open Go.Proofs.YtcelojkecfiocaaDoorW.PrintWords
open Go.Proofs.YtcelojkecfiocaaDoor.Changed (RTabs)
open Go.Proofs.YtcelojkecfiocaaDoor.RefFilled (info5 Own Post)

theorem quo_shr (x : BitVec 32) (k : Nat) : Op.intDiv .quo .u32 (tn x) ((2 ^ k : Nat) : Int) = pure (.int .u32 (tn (x >>> k))) := by
  have hp : ((2 ^ k : Nat) : Int) ≠ 0 := by have := Nat.two_pow_pos k; omega
  unfold Op.intDiv
  rw [if_neg hp]
  show (pure (Value.int .u32 (IntKind.u32.wrap ((tn x).tdiv ((2 ^ k : Nat) : Int)))) : Sem Value) = _
  congr 2
  unfold tn
  rw [BitVec.toNat_ushiftRight, Nat.shiftRight_eq_div_pow]
  have e : ((x.toNat : Int)).tdiv ((2 ^ k : Nat) : Int) = ((x.toNat / 2 ^ k : Nat) : Int) := rfl
  rw [e]
  have h1 := x.isLt
  have h2 := Nat.div_le_self x.toNat (2 ^ k)
  generalize x.toNat / 2 ^ k = q at h2 ⊢
  exact IntWalk.u32_in _ (by omega)
theorem quo24 (x : BitVec 32) : Op.intDiv .quo .u32 (tn x) 16777216 = pure (.int .u32 (tn (x >>> 24))) := quo_shr x 24
theorem quo16 (x : BitVec 32) : Op.intDiv .quo .u32 (tn x) 65536 = pure (.int .u32 (tn (x >>> 16))) := quo_shr x 16
theorem quo8 (x : BitVec 32) : Op.intDiv .quo .u32 (tn x) 256 = pure (.int .u32 (tn (x >>> 8))) := quo_shr x 8
attribute [local go_sem ↓ high] quo24 quo16 quo8

structure Rel (B : Nat) (w wr : World) (g cap : Nat) (F : List UInt8) (X : List (BitVec 32)) : Prop where
  below : Below B w wr
  x : Arr wr B 55 (X.map eu)
  all : wr.ownsRow (B + 1) 5 1 (.slice (some ⟨g, 0, none⟩) F.length cap) F.length (encs eb F)
  tabs : RTabs wr

set_option maxRecDepth 100000 in
set_option maxHeartbeats 400000 in
theorem sum_any (A : Option Addr) (m c : Nat) (l : List UInt8) (w : World) (hT : RTabs w) (hr : ReadsOf eb 0 w A m l) (hm : m ≤ 140737488353000) :
    Calls Tryd.prog 17 #[.slice A m c] w (Post w (Sha.sha l)) := by
  obtain ⟨t0, fr0, hfirst⟩ := hT.first
  have hc : ∀ i, w.cell? ⟨0, i, none⟩ = (Sha.iv.map eu)[i]? := fun i => by rw [cell_of_row w 0 i _ t0 fr0 hfirst]; simp
  have c0 := hc 0
  have c1 := hc 1
  have c2 := hc 2
  have c3 := hc 3
  have c4 := hc 4
  have c5 := hc 5
  have c6 := hc 6
  have c7 := hc 7
  simp only [Sha.iv, List.map_cons, List.map_nil, List.getElem?_cons_zero, List.getElem?_cons_succ] at c0 c1 c2 c3 c4 c5 c6 c7
  clear hc hfirst
  go_enter Tryd.func17, Tryd.ntmps17
  go_wp2_with fail
  clear c0 c1 c2 c3 c4 c5 c6 c7
  refine (RefFilled.filled_any A m c l _ (hr.below ((Below.refl _ _).alloc (Nat.le_refl _) _)) hm).mono ?_
  rintro e w1 ⟨v, rfl, hown, hb⟩
  have hx : Arr w1 w.heap.size 55 (Sha.iv.map eu) := (Arr.new w 55 (Sha.iv.map eu)).below hb
  have hbw : Below w.heap.size w w1 := ((Below.refl _ _).alloc (Nat.le_refl _) _).trans (hb.mono (by simp))
  have hF : 0 < (Sha.filled l).length := by rw [Sha.filled_length]; omega
  have hF1 : (Sha.filled l).length ≤ 140737488353000 + 80 := by rw [Sha.filled_length, hr.1]; have := Sha.zeros_lt m; omega
  have hF64 := Sha.zeros_fit l.length
  rw [← Sha.filled_length] at hF64
  obtain ⟨F, hFe⟩ : ∃ F, F = Sha.filled l := ⟨_, rfl⟩
  rw [← hFe] at hown hF hF1 hF64
  have hFe' := Lib.hid hFe
  obtain ⟨g, cp, rfl, hg0, hg1⟩ := hown.form hF
  have hI : Rel w.heap.size w w1 g cp F Sha.iv := ⟨hbw, hx, own_weaken hown (by simp), hT.below hbw⟩
  have hcap := own_le hown
  have hF64' := Lib.hid hF64
  clear hown hb hx hbw hFe hg0 hg1 hF64
  go_wp2_with fail
  go_loopw [5] (fun i wr => ∃ j : Nat, 64 * j ≤ F.length ∧ i = .int .i64 (64 * (j : Int)) ∧ ∃ X : List (BitVec 32), X.length = 8 ∧ Hid (X = Sha.comp Sha.iv F j) ∧ Rel w.heap.size w wr g cp F X) (fun i _ => F.length - (intOf i).toNat)
  case atStart => exact ⟨0, by omega, rfl, Sha.iv, rfl, rfl, hI⟩
  case round =>
    obtain ⟨j, hj, rfl, X, hX, hXe, hJ⟩ := hrel
    by_cases hlt : 64 * j < F.length
    · have hfit : 64 * j + 64 ≤ F.length := by have := hF64'.out; omega
      obtain ⟨i0, hi, _, hi1, _⟩ := info_parts info5
      have hs := cut_lh (P := Tryd.prog) 22 5 Tryd.underlying22 hi hi1 ⟨g, 0, none⟩ F.length cp (64 * j) (64 * j + 64) (64 * (j : Int)) (64 * (j : Int) + 64) (by omega) (by omega) (by omega) (by omega) (by omega)
      have hX8 := Lib.hid hX
      obtain ⟨x0, x1, x2, x3, x4, x5, x6, x7, hXX⟩ := Changed.list8 X hX
      have hXX' := Lib.hid hXX
      have hx1 := hJ.x
      rw [hXX] at hx1
      have c0 := hx1.cell 0
      have c1 := hx1.cell 1
      have c2 := hx1.cell 2
      have c3 := hx1.cell 3
      have c4 := hx1.cell 4
      have c5 := hx1.cell 5
      have c6 := hx1.cell 6
      have c7 := hx1.cell 7
      simp only [List.map_cons, List.map_nil, List.getElem?_cons_zero, List.getElem?_cons_succ] at c0 c1 c2 c3 c4 c5 c6 c7
      clear hX hXX
      have y1 : IntKind.i64.wrap (64 * (j : Int) + 64) = 64 * (j : Int) + 64 := IntWalk.i64_in _ (by omega)
      go_wp2_with fail
      go_still_tail 6, (by kernel_rfl)
      clear c0 c1 c2 c3 c4 c5 c6 c7 hx1 y1
      replace hJ : Rel w.heap.size w { wr with drawn := wr.drawn + 1 } g cp F X := ⟨below_drewN hJ.below 1, hJ.x, hJ.all, ⟨hJ.tabs.first, hJ.tabs.k, hJ.tabs.size⟩⟩
      generalize ({ wr with drawn := wr.drawn + 1 } : World) = w3 at hJ ⊢
      have hp := reads_part hJ.all (64 * j) (64 * j + 64) (by omega) (by omega) (by omega)
      rw [show 64 * j + 64 - 64 * j = 64 by omega, add_plain] at hp
      have hpp := Lib.hid hp
      clear hp
      go_wp2_with fail
      refine (RefChange.change_any [x0, x1, x2, x3, x4, x5, x6, x7] rfl _ _ _ w3 hJ.tabs hpp.out).mono ?_
      rintro e w4 ⟨rfl, hb4⟩
      have hx4 := hJ.x.below hb4
      have hK : Rel w.heap.size w (w4.setRow w.heap.size ((Sha.block [x0, x1, x2, x3, x4, x5, x6, x7] ((F.drop (64 * j)).take 64)).map eu).toArray) g cp F (Sha.comp Sha.iv F (j + 1)) := by
        refine ⟨below_setRow (hJ.below.trans (hb4.mono hJ.below.size)) (Nat.le_refl _) _, ?_, own_setRow (pw_own_below hJ.all hb4) (by omega) _, (hJ.tabs.below hb4).setRow (by have := hT.size; omega) _⟩
        have h1 := hx4.setRow ((Sha.block [x0, x1, x2, x3, x4, x5, x6, x7] ((F.drop (64 * j)).take 64)).map eu)
        rw [Sha.comp, ← hXe.out, hXX'.out]
        exact h1
      have hl8 : (Sha.block [x0, x1, x2, x3, x4, x5, x6, x7] ((F.drop (64 * j)).take 64)).length = 8 := Sha.block_length _ _ rfl
      obtain ⟨R, hRR⟩ : ∃ R, R = (Sha.block [x0, x1, x2, x3, x4, x5, x6, x7] ((F.drop (64 * j)).take 64)).map eu := ⟨_, rfl⟩
      have hsz : R.toArray.size = 8 := by rw [hRR]; simp [hl8]
      have hone : R.toArray.all (·.oneCell') = true := by rw [hRR]; simp [Value.oneCell']
      have hinf : (Tryd.prog.info? 55).map (·.size) = some R.toArray.size := (by kernel_rfl : (Tryd.prog.info? 55).map (·.size) = some 8).trans (congrArg some hsz.symm)
      rw [← hRR] at hK ⊢
      have hold : ((X.map eu).toArray).size = R.toArray.size := by rw [hsz]; simp [hX8.out]
      clear hRR hl8 hb4 hJ
      go_wp2_with ((with_reducible refine wpList_store_row (o := ⟨none, Op.store 55 (.tmp 3) (.tmp 23), _, _, _, none⟩) ?l1 55 (.tmp 3) (.tmp 23) ?l2 w.heap.size R.toArray ?l3 ?l4 55 (X.map eu).toArray ?l6 hinf ?l7 hone ?l8); (case l1 => rfl); (case l2 => rfl); (case l3 => rfl); (case l4 => rfl); (case l6 => exact hx4); (case l7 => exact hold))
      refine ⟨⟨j + 1, by omega, by go_num, _, Sha.comp_length _ _ rfl _, rfl, hK⟩, by simp [intOf]; omega⟩
    · have hX8 := Lib.hid hX
      have hXf : X = Sha.comp Sha.iv F (F.length / 64) := by
        rw [hXe.out, show j = F.length / 64 by have := hF64'.out; omega]
      have hXf' := Lib.hid hXf
      have hbase := hJ.below.size
      have hxl := hJ.x.lt
      clear hX hXf
      go_wp2_with fail
      obtain ⟨wo, hwo⟩ : ∃ wo, wo = wr := ⟨_, rfl⟩
      rw [← hwo] at hJ hbase hxl ⊢
      clear hwo
      go_loopw [7, 6] (fun i v wi => ∃ k : Nat, k ≤ 8 ∧ i = .int .i64 k ∧ ∃ L : List UInt8, Hid (L = Sha.out (X.take k)) ∧ L.length = 4 * k ∧ Own wo.heap.size wo wi v L) (fun i _ _ => 8 - (intOf i).toNat)
      case atStart => exact ⟨0, by omega, rfl, [], rfl, rfl, Below.refl _ _, own_nil _ _ _ _⟩
      case round =>
        obtain ⟨k, hk, rfl, L, hL, hlen, hK⟩ := hrel
        by_cases hlk : k < 8
        · obtain ⟨xk, hxk⟩ : ∃ xk, xk = Sha.w32 X k := ⟨_, rfl⟩
          have hc : wr.cell? ⟨w.heap.size, k, none⟩ = some (eu xk) := by
            have h8 := hX8.out
            rw [hK.below.cell (p := ⟨w.heap.size, k, none⟩) hxl, hJ.x.cell, hxk]
            simp [h8, hlk, Sha.w32]
          have hxk' := Lib.hid hxk
          have hown' := Lib.hid hK.own
          have hK' := Lib.hid hK
          have hbo := hK.below.size
          have hgl : w.heap.size < wr.heap.size := by omega
          have ak : u6.ownBlock ≠ some w.heap.size := fun h => by have := hK.own.lt _ h; omega
          obtain ⟨i0, hi0, hz0, hz1, hz2⟩ := info_parts info5
          have x1 : 0 ≤ (k : Int) := by omega
          have x2 : (k : Int) < 8 := by omega
          have hlen' := Lib.hid hlen
          clear hxk hK hlen
          go_wp2_with fail
          go_region_held3 (fun w' => w'.cell? ⟨w.heap.size, k, none⟩ = some (eu xk))
            (first
              | go_keep
              | (rw [hgrow.cell_far _ (by simp; omega) (Ne.symm ak)]; assumption))
            ((refine step_append_lies _ (by rfl) _ _ _ (by rfl) wo.heap.size 5 i0 _ 1 1 Tryd.underlying22 hi0 hz0 hz1 hz2 rfl (by omega) u6 L.length (encs eb L) (by rfl) ((hown'.out.alloc _).drew)
                ⟨wr.heap.size, 0, none⟩ 4 4 [eb (Sha.low (xk >>> 24)), eb (Sha.low (xk >>> 16)), eb (Sha.low (xk >>> 8)), eb (Sha.low xk)] (by rfl) (by rfl) (World.news_of_block (cs := #[eb (Sha.low (xk >>> 24)), eb (Sha.low (xk >>> 16)), eb (Sha.low (xk >>> 8)), eb (Sha.low xk)]) (t := 5) (fr := (0, 0)) (heap_alloc_new wr _)) (by simp [Value.oneCell'])
                (by omega) (by have := hlen'.out; unfold maxLen; omega) (by have := hlen'.out; omega) (by simp; omega) (wr.heap.size + 1) (by simp) ?_; intro gg cap w1 hown1 hgrow hat hlt))
          have hM : Own wo.heap.size wo w1 (.slice (some ⟨gg, 0, none⟩) (L.length + 4) cap) (L ++ Sha.four xk) := by
            refine ⟨(below_drewN (hK'.out.below.alloc hbo _) 1).grown hgrow (by simp [World.drewN]; omega) (fun q hq => (hown'.out.lt q hq).1), ?_⟩
            simpa [encs, Sha.four] using hown1
          have hX9 := hX8.out
          clear hown1 hgrow hat hlt
          go_wp2_with fail
          refine ⟨⟨k + 1, by omega, by go_num, L ++ Sha.four xk, ?_, by simp [Sha.four, hlen'.out]; omega, hM⟩, by simp [intOf]; omega⟩
          show L ++ Sha.four xk = _
          have hk9 : k < X.length := by omega
          rw [hL.out, List.take_succ_eq_append_getElem hk9, Sha.out, Sha.out, List.flatMap_append, hxk'.out]
          simp [Sha.w32, hk9]
        · go_wp2_with fail
          go_ret
          have hk8 : k = 8 := by omega
          refine ⟨_, rfl, ?_, hJ.below.trans (hK.below.mono (by omega))⟩
          have h1 := hK.own
          have h2 : L = Sha.sha l := by
            rw [hL.out, hk8, List.take_of_length_le (by have := hX8.out; omega), hXf'.out, hFe'.out]
            rfl
          rw [h2] at h1
          exact own_weaken h1 (by omega)
end Go.Proofs.YtcelojkecfiocaaDoor.RefSum
