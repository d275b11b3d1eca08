/- sum.Join: the sum of bytes out of the sums of their parts. Conditions: none. -/
import Derived.Test.YtcfgcbcciaeabaaDoorByteful
namespace Go.Proofs.YtcfgcbcciaeabaaDoor.Join
open Go.RowKit Go.Proofs.YtcfgcbcciaeabaaDoor.Bv Go.Proofs.YtcfgcbcciaeabaaDoor.Mem
open Go.Proofs.YtcfgcbcciaeabaaDoorW.PrintWords
open Go.Proofs.YtcfgcbcciaeabaaDoor.Crc
open Go.Proofs.YtcfgcbcciaeabaaDoor.More (mayB wrap64_tn)
open Go.Proofs.YtcfgcbcciaeabaaDoor.Of (of_any)
open Go.Proofs.YtcfgcbcciaeabaaDoor.Twice (two twice_any)
open Go.Proofs.YtcfgcbcciaeabaaDoor.Byteful (two_mat zeros byteful_any)

def joinP (x y n : Int) : Int × Int := if mayB x = true ∧ mayB y = true ∧ 0 ≤ n then (tn (join (BitVec.ofInt 32 x) (BitVec.ofInt 32 y) n.toNat), 0) else (0, 1)
/-- The cells of a matrix. -/
def cells (f : W → W) : Array Value := ((mat f).map eu).toArray
theorem cells_size (f : W → W) : (cells f).size = 32 := by simp [cells, mat_length]
theorem cells_info (f : W → W) : (Tryd.prog.info? 46).map (·.size) = some (cells f).size := (by kernel_rfl : (Tryd.prog.info? 46).map (·.size) = some 32).trans (congrArg some (cells_size f).symm)
theorem cells_one (f : W → W) : (cells f).all (·.oneCell') = true := by simp [cells, Value.oneCell']
theorem zeros_size : zeros.size = 32 := rfl
theorem i64_and1 (n : Int) : bits .and .i64 n 1 = n % 2 := by
  have h1 : (BitVec.ofInt 64 1).toNat = 2 ^ 1 - 1 := by decide
  have key : (BitVec.ofInt 64 n &&& BitVec.ofInt 64 1).toNat = (n % ((2 ^ 64 : Nat) : Int)).toNat % 2 ^ 1 := by
    rw [BitVec.toNat_and, BitVec.toNat_ofInt, h1, Nat.and_two_pow_sub_one_eq_mod]
  show IntKind.i64.wrap ((BitVec.ofInt 64 n &&& BitVec.ofInt 64 1).toNat : Nat) = n % 2
  rw [key, IntKind.wrap_i64]
  omega
theorem of_mat {f : W → W} (hf : Lin f) (n : W) (w : World) : Calls Tryd.prog 28 #[.agg (cells f), .int .u32 (tn n)] w fun e w' => e = .returned (.int .u32 (tn (f n))) ∧ Below w.heap.size w w' := by
  have := of_any (mat f) (mat_length f) n w
  rwa [ofu_mat hf] at this
theorem twice_mat {f : W → W} (hf : Lin f) (w : World) : Calls Tryd.prog 29 #[.agg (cells f)] w fun e w' => e = .returned (.agg (cells fun x => f (f x))) ∧ Below w.heap.size w w' := by
  have := twice_any (mat f) (mat_length f) w
  rwa [two_mat hf] at this
theorem byteful_mat (w : World) : Calls Tryd.prog 27 #[] w fun e w' => e = .returned (.agg (cells eight)) ∧ Below w.heap.size w w' := byteful_any w
/-- Block g is the matrix of f. -/
def IsMat (w : World) (g : Nat) (f : W → W) : Prop := w.heap[g]? = some (.cells (cells f) 46 (0, 0))
theorem IsMat.lt {w : World} {g : Nat} {f : W → W} (h : IsMat w g f) : g < w.heap.size := (Array.getElem?_eq_some_iff.1 h).1
theorem IsMat.on {w w' : World} {g : Nat} {f : W → W} (h : IsMat w g f) (hb : Below w.heap.size w w') : IsMat w' g f := (hb.block g h.lt).trans h
theorem IsMat.set {w : World} {g : Nat} {f : W → W} (h : IsMat w g f) (f2 : W → W) : IsMat (w.setRow g (cells f2)) g f2 := setRow_heap w g _ (cells f2) 46 (0, 0) h
theorem new_mat (w : World) (f : W → W) : IsMat ((w.alloc (.cells zeros 46)).setRow w.heap.size (cells f)) w.heap.size f := setRow_heap _ w.heap.size zeros (cells f) 46 (0, 0) (heap_alloc_new w _)
theorem new_below {B : Nat} {w w1 : World} (h : Below B w w1) (hB : B ≤ w1.heap.size) (f : W → W) : Below B w ((w1.alloc (.cells zeros 46)).setRow w1.heap.size (cells f)) := below_setRow (h.alloc hB _) hB _

set_option maxRecDepth 100000 in
set_option maxHeartbeats 3200000 in
theorem join_any (x y n : Int) (hn : n ≤ 9223372036854775807) (w : World) : Calls Tryd.prog 17 #[.int .i64 x, .int .i64 y, .int .i64 n] w fun e w' => e = .returned (.tuple #[.int .i64 (joinP x y n).1, .int .i64 (joinP x y n).2]) ∧ Below w.heap.size w w' := by
  have fails : ¬ (mayB x = true ∧ mayB y = true ∧ 0 ≤ n) → joinP x y n = (0, 1) := fun h => by rw [joinP, if_neg h]
  have fails' := Lib.hid fails
  clear fails
  cases hx : mayB x with
  | false =>
    have hp := Lib.hid (fails'.out (by rw [hx]; simp))
    go_enter Tryd.func17, Tryd.ntmps17
    go_wp2_with (go_at_call 24; refine (More.may_any _ _).mono ?_; rintro e w' ⟨rfl, rfl⟩; rw [hx])
    go_ret2
    rw [hp.out]
    exact ⟨rfl, Below.refl _ _⟩
  | true =>
    cases hy : mayB y with
    | false =>
      have hp := Lib.hid (fails'.out (by rw [hy]; simp))
      go_enter Tryd.func17, Tryd.ntmps17
      go_wp2_with (go_at_call 24; refine (More.may_any _ _).mono ?_; rintro e w' ⟨rfl, rfl⟩; first | rw [hx] | rw [hy])
      go_ret2
      rw [hp.out]
      exact ⟨rfl, Below.refl _ _⟩
    | true =>
      by_cases h0 : n < 0
      · have hp := Lib.hid (fails'.out (by omega))
        go_enter Tryd.func17, Tryd.ntmps17
        go_wp2_with (go_at_call 24; refine (More.may_any _ _).mono ?_; rintro e w' ⟨rfl, rfl⟩; first | rw [hx] | rw [hy])
        go_ret2
        rw [hp.out]
        exact ⟨rfl, Below.refl _ _⟩
      · have hp := Lib.hid (show joinP x y n = (tn (join (BitVec.ofInt 32 x) (BitVec.ofInt 32 y) n.toNat), 0) by rw [joinP, if_pos ⟨hx, hy, by omega⟩])
        obtain ⟨N, hN⟩ : ∃ N : Nat, n = (N : Int) := ⟨n.toNat, by omega⟩
        subst hN
        obtain ⟨X, hX⟩ : ∃ X, X = BitVec.ofInt 32 x := ⟨_, rfl⟩
        obtain ⟨Y, hY⟩ : ∃ Y, Y = BitVec.ofInt 32 y := ⟨_, rfl⟩
        have hwx : IntKind.u32.wrap x = tn X := by rw [wrap_tn, hX]
        have hwy : IntKind.u32.wrap y = tn Y := by rw [wrap_tn, hY]
        have hX' := Lib.hid hX
        have hY' := Lib.hid hY
        clear hX hY fails'
        go_enter Tryd.func17, Tryd.ntmps17
        go_upto_region 4 with (go_at_call 24; refine (More.may_any _ _).mono ?_; rintro e w' ⟨rfl, rfl⟩; first | rw [hx] | rw [hy])
        clear hx hy
        go_wp2_with fail
        refine (byteful_mat w).mono ?_
        rintro e w1 ⟨rfl, hb1⟩
        have hold1 := heap_alloc_new w1 (.cells zeros 46)
        have hm1 := new_mat w1 eight
        have hB1 := new_below hb1 hb1.size eight
        have hg1 := hb1.size
        have hm1' := Lib.hid hm1
        have hB1' := Lib.hid hB1
        have hold1' := Lib.hid hold1
        have hM0 : Hid (IsMat ((w1.alloc (.cells #[Value.int .u32 0, Value.int .u32 0, Value.int .u32 0, Value.int .u32 0, Value.int .u32 0, Value.int .u32 0, Value.int .u32 0, Value.int .u32 0, Value.int .u32 0, Value.int .u32 0, Value.int .u32 0, Value.int .u32 0, Value.int .u32 0, Value.int .u32 0, Value.int .u32 0, Value.int .u32 0, Value.int .u32 0, Value.int .u32 0, Value.int .u32 0, Value.int .u32 0, Value.int .u32 0, Value.int .u32 0, Value.int .u32 0, Value.int .u32 0, Value.int .u32 0, Value.int .u32 0, Value.int .u32 0, Value.int .u32 0, Value.int .u32 0, Value.int .u32 0, Value.int .u32 0, Value.int .u32 0] 46)).setRow w1.heap.size (cells eight)) w1.heap.size eight) := hm1
        have hBB : Hid (Below w.heap.size w ((w1.alloc (.cells #[Value.int .u32 0, Value.int .u32 0, Value.int .u32 0, Value.int .u32 0, Value.int .u32 0, Value.int .u32 0, Value.int .u32 0, Value.int .u32 0, Value.int .u32 0, Value.int .u32 0, Value.int .u32 0, Value.int .u32 0, Value.int .u32 0, Value.int .u32 0, Value.int .u32 0, Value.int .u32 0, Value.int .u32 0, Value.int .u32 0, Value.int .u32 0, Value.int .u32 0, Value.int .u32 0, Value.int .u32 0, Value.int .u32 0, Value.int .u32 0, Value.int .u32 0, Value.int .u32 0, Value.int .u32 0, Value.int .u32 0, Value.int .u32 0, Value.int .u32 0, Value.int .u32 0, Value.int .u32 0] 46)).setRow w1.heap.size (cells eight))) := hB1
        clear hm1 hB1 hold1 hb1
        go_upto_region 5 with ((with_reducible refine wpList_store_row (o := ⟨none, Op.store 46 (.tmp 9) (.tmp 24), _, _, _, none⟩) ?ga1 46 (.tmp 9) (.tmp 24) ?ga2 (w1.heap.size) (cells eight) ?ga3 ?ga4 46 ?ga5 ?ga6 (cells_info eight) ?ga7 (cells_one eight) ?ga8); (case ga1 => rfl); (case ga2 => rfl); (case ga3 => rfl); (case ga4 => rfl); (case ga6 => exact hold1'.out); (case ga7 => (rw [cells_size]; rfl)))
        generalize ((w1.alloc (.cells #[Value.int .u32 0, Value.int .u32 0, Value.int .u32 0, Value.int .u32 0, Value.int .u32 0, Value.int .u32 0, Value.int .u32 0, Value.int .u32 0, Value.int .u32 0, Value.int .u32 0, Value.int .u32 0, Value.int .u32 0, Value.int .u32 0, Value.int .u32 0, Value.int .u32 0, Value.int .u32 0, Value.int .u32 0, Value.int .u32 0, Value.int .u32 0, Value.int .u32 0, Value.int .u32 0, Value.int .u32 0, Value.int .u32 0, Value.int .u32 0, Value.int .u32 0, Value.int .u32 0, Value.int .u32 0, Value.int .u32 0, Value.int .u32 0, Value.int .u32 0, Value.int .u32 0, Value.int .u32 0] 46)).setRow w1.heap.size (cells eight)) = W0 at hM0 hBB ⊢
        simp only [Act.put]
        go_loopg [2, 8, 9] N (fun k s2 s8 s9 wr => s2 = .int .i64 (k : Int) ∧ ∃ (R : W) (g : Nat) (f : W → W), s8 = .int .u32 (tn R) ∧ s9 = .pointer (some ⟨g, 0, none⟩) ∧ w.heap.size ≤ g ∧ Lin f ∧ Hid (itf f k R = eights X N) ∧ IsMat wr g f ∧ Below w.heap.size w wr)
        case atStart => exact ⟨rfl, X, w1.heap.size, eight, rfl, rfl, hg1, eight_lin, itf_eights N X, hM0.out, hBB.out⟩
        case round =>
          obtain ⟨rfl, R, g, f, rfl, rfl, hg, hf, hit, hM, hB⟩ := hrel
          by_cases hk : 0 < gk
          · have hM' := Lib.hid hM
            have hB' := Lib.hid hB
            have hf' := Lib.hid hf
            have hand := i64_and1 (gk : Int)
            by_cases hodd : gk % 2 = 1
            · have ho : (gk : Int) % 2 = 1 := by omega
              have hnext : Hid (itf (fun v => f (f v)) (gk / 2) (f R) = eights X N) := by
                show _ = _
                rw [← hit.out, itf_odd f gk hodd]
              rw [ho] at hand
              clear hM hB hf hodd ho
              go_upto_region 9 with (first | ((with_reducible refine wpList_load_row (o := ⟨some 32, Op.load 46 (.tmp 9), _, _, _, none⟩) ?la1 46 (.tmp 9) ?la2 (g) ?la3 46 (cells f) (0, 0) _ ?la4 Tryd.underlying46 ?la5 (cells_info f) ?la6); (case la1 => rfl); (case la2 => rfl); (case la3 => rfl); (case la4 => exact hM'.out); (case la5 => rfl)) | (go_at_call 28; refine (of_mat hf'.out R wr).mono ?_; rintro e w2 ⟨rfl, hb2⟩))
              have hM2 := hM'.out.on hb2
              have hB2 := hB'.out.trans (hb2.mono hB'.out.size)
              have hR2 := Lib.hid hM2
              have hB2' := Lib.hid hB2
              clear hM2 hB2 hb2
              have hT := twice_mat hf'.out w2
              have hT' := Lib.hid hT
              clear hT
              go_upto_region 10 with (first | ((with_reducible refine wpList_load_row (o := ⟨some 35, Op.load 46 (.tmp 9), _, _, _, none⟩) ?p1a1 46 (.tmp 9) ?p1a2 (g) ?p1a3 46 (cells f) (0, 0) _ ?p1a4 Tryd.underlying46 ?p1a5 (cells_info f) ?p1a6); (case p1a1 => rfl); (case p1a2 => rfl); (case p1a3 => rfl); (case p1a4 => exact hR2.out); (case p1a5 => rfl)) | (go_at_call 29; refine hT'.out.mono ?_; rintro e w3 ⟨rfl, hb3⟩; have hold3 := Lib.hid (hR2.out.on hb3); have hB3 := Lib.hid (hB2'.out.trans (hb3.mono hB2'.out.size)); clear hb3) | ((with_reducible refine wpList_store_row (o := ⟨none, Op.store 46 (.tmp 9) (.tmp 36), _, _, _, none⟩) ?p1b1 46 (.tmp 9) (.tmp 36) ?p1b2 (g) (cells fun v => f (f v)) ?p1b3 ?p1b4 46 ?p1b5 ?p1b6 (cells_info _) ?p1b7 (cells_one _) ?p1b8); (case p1b1 => rfl); (case p1b2 => rfl); (case p1b3 => rfl); (case p1b4 => rfl); (case p1b6 => exact hold3.out); (case p1b7 => (rw [cells_size, cells_size]))))
              have hM4 := Lib.hid (hold3.out.set (fun v => f (f v)))
              have hB4 := Lib.hid (below_setRow hB3.out hg (cells fun v => f (f v)))
              clear hold3 hB3
              generalize w3.setRow g (cells fun v => f (f v)) = w4 at hM4 hB4 ⊢
              have hold5 := Lib.hid (heap_alloc_new w4 (.cells zeros 46))
              have hM5 := Lib.hid (new_mat w4 (fun v => f (f v)))
              have hs4 := hB4.out.size
              have hB5 := Lib.hid (new_below hB4.out hs4 (fun v => f (f v)))
              go_wp2_with (first | ((with_reducible refine wpList_load_row (o := ⟨some 37, Op.load 46 (.tmp 9), _, _, _, none⟩) ?p1c1 46 (.tmp 9) ?p1c2 (g) ?p1c3 46 (cells fun v => f (f v)) (0, 0) _ ?p1c4 Tryd.underlying46 ?p1c5 (cells_info _) ?p1c6); (case p1c1 => rfl); (case p1c2 => rfl); (case p1c3 => rfl); (case p1c4 => exact hM4.out); (case p1c5 => rfl)) | ((with_reducible refine wpList_store_row (o := ⟨none, Op.store 46 (.tmp 9) (.tmp 37), _, _, _, none⟩) ?p1d1 46 (.tmp 9) (.tmp 37) ?p1d2 (w4.heap.size) (cells fun v => f (f v)) ?p1d3 ?p1d4 46 ?p1d5 ?p1d6 (cells_info _) ?p1d7 (cells_one _) ?p1d8); (case p1d1 => rfl); (case p1d2 => rfl); (case p1d3 => rfl); (case p1d4 => rfl); (case p1d6 => exact hold5.out); (case p1d7 => (rw [cells_size]; rfl))))
              go_roundg (gk / 2)
              case measure => omega
              case rel => exact ⟨by go_num, f R, w4.heap.size, fun v => f (f v), rfl, rfl, hs4, hf'.out.two, hnext, hM5.out, hB5.out⟩
            · have he : gk % 2 = 0 := by omega
              have ho : (gk : Int) % 2 = 0 := by omega
              have hnext : Hid (itf (fun v => f (f v)) (gk / 2) R = eights X N) := by
                show _ = _
                rw [← hit.out, itf_even f gk he]
              rw [ho] at hand
              clear hM hB hf hodd ho he
              go_upto_region 9 with fail
              have hT := twice_mat hf'.out wr
              have hT' := Lib.hid hT
              clear hT
              go_upto_region 10 with (first | ((with_reducible refine wpList_load_row (o := ⟨some 35, Op.load 46 (.tmp 9), _, _, _, none⟩) ?p2a1 46 (.tmp 9) ?p2a2 (g) ?p2a3 46 (cells f) (0, 0) _ ?p2a4 Tryd.underlying46 ?p2a5 (cells_info f) ?p2a6); (case p2a1 => rfl); (case p2a2 => rfl); (case p2a3 => rfl); (case p2a4 => exact hM'.out); (case p2a5 => rfl)) | (go_at_call 29; refine hT'.out.mono ?_; rintro e w3 ⟨rfl, hb3⟩; have hold3 := Lib.hid (hM'.out.on hb3); have hB3 := Lib.hid (hB'.out.trans (hb3.mono hB'.out.size)); clear hb3) | ((with_reducible refine wpList_store_row (o := ⟨none, Op.store 46 (.tmp 9) (.tmp 36), _, _, _, none⟩) ?p2b1 46 (.tmp 9) (.tmp 36) ?p2b2 (g) (cells fun v => f (f v)) ?p2b3 ?p2b4 46 ?p2b5 ?p2b6 (cells_info _) ?p2b7 (cells_one _) ?p2b8); (case p2b1 => rfl); (case p2b2 => rfl); (case p2b3 => rfl); (case p2b4 => rfl); (case p2b6 => exact hold3.out); (case p2b7 => (rw [cells_size, cells_size]))))
              have hM4 := Lib.hid (hold3.out.set (fun v => f (f v)))
              have hB4 := Lib.hid (below_setRow hB3.out hg (cells fun v => f (f v)))
              clear hold3 hB3
              generalize w3.setRow g (cells fun v => f (f v)) = w4 at hM4 hB4 ⊢
              have hold5 := Lib.hid (heap_alloc_new w4 (.cells zeros 46))
              have hM5 := Lib.hid (new_mat w4 (fun v => f (f v)))
              have hs4 := hB4.out.size
              have hB5 := Lib.hid (new_below hB4.out hs4 (fun v => f (f v)))
              go_wp2_with (first | ((with_reducible refine wpList_load_row (o := ⟨some 37, Op.load 46 (.tmp 9), _, _, _, none⟩) ?p2c1 46 (.tmp 9) ?p2c2 (g) ?p2c3 46 (cells fun v => f (f v)) (0, 0) _ ?p2c4 Tryd.underlying46 ?p2c5 (cells_info _) ?p2c6); (case p2c1 => rfl); (case p2c2 => rfl); (case p2c3 => rfl); (case p2c4 => exact hM4.out); (case p2c5 => rfl)) | ((with_reducible refine wpList_store_row (o := ⟨none, Op.store 46 (.tmp 9) (.tmp 37), _, _, _, none⟩) ?p2d1 46 (.tmp 9) (.tmp 37) ?p2d2 (w4.heap.size) (cells fun v => f (f v)) ?p2d3 ?p2d4 46 ?p2d5 ?p2d6 (cells_info _) ?p2d7 (cells_one _) ?p2d8); (case p2d1 => rfl); (case p2d2 => rfl); (case p2d3 => rfl); (case p2d4 => rfl); (case p2d6 => exact hold5.out); (case p2d7 => (rw [cells_size]; rfl))))
              go_roundg (gk / 2)
              case measure => omega
              case rel => exact ⟨by go_num, R, w4.heap.size, fun v => f (f v), rfl, rfl, hs4, hf'.out.two, hnext, hM5.out, hB5.out⟩
          · obtain rfl : gk = 0 := by omega
            have hfin : tn (R ^^^ Y) = (joinP x y (N : Int)).1 := by
              rw [hp.out, ← hX'.out, ← hY'.out, Int.toNat_natCast]
              show _ = tn (eights X N ^^^ Y)
              rw [← hit.out]
              rfl
            have hfin2 : (joinP x y (N : Int)).2 = 0 := by rw [hp.out]
            obtain ⟨z, hz⟩ : ∃ z, R ^^^ Y = z := ⟨_, rfl⟩
            rw [hz] at hfin
            have hfin' := Lib.hid hfin
            have hfin2' := Lib.hid hfin2
            have hB' := Lib.hid hB
            clear hfin hfin2 hM hB hf hit hp
            go_wp2_with fail
            go_ret2
            rw [← hfin'.out, hfin2'.out]
            refine ⟨?_, hB'.out⟩
            show Ending.returned (.tuple #[.int .i64 (wrap64 (tn z)), .int .i64 0]) = _
            rw [wrap64_tn]
end Go.Proofs.YtcfgcbcciaeabaaDoor.Join
