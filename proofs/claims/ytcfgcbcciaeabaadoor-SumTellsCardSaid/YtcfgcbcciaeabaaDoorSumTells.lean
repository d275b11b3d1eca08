/- SumTells: a frame of which up to four neighbouring bytes are other ones is none. -/
import Derived.Test.YtcfgcbcciaeabaaDoorTells
import Derived.StillTailTactics
namespace Go.Proofs.YtcfgcbcciaeabaaDoor.SumTells
open Go.RowKit Go.Proofs.YtcfgcbcciaeabaaDoor.Bv Go.Proofs.YtcfgcbcciaeabaaDoor.Mem
open Go.Proofs.YtcfgcbcciaeabaaDoorW.PrintWords
open Go.Proofs.YtcfgcbcciaeabaaDoor.Crc
open Go.Proofs.YtcfgcbcciaeabaaDoor.More (Tab)
open Go.Proofs.YtcfgcbcciaeabaaDoor.Obj (info5)
open Go.Proofs.YtcfgcbcciaeabaaDoor.Str
open Go.Proofs.YtcfgcbcciaeabaaDoor.Hold
open Go.Proofs.YtcfgcbcciaeabaaDoor.SumAffine (xor_tb)
open Go.Proofs.YtcfgcbcciaeabaaDoor.Owned (Own)

/-- The first i are 0. -/
def zs (E : List UInt8) (i : Nat) : Bool := (E.take i).all (· == 0)
theorem zs_zero (E : List UInt8) : zs E 0 = true := by simp [zs]
theorem zs_step (E : List UInt8) (i : Nat) (h : i < E.length) : zs E (i + 1) = (zs E i && Sha.b8 E i == 0) := by
  unfold zs
  rw [List.take_succ_eq_append_getElem h, List.all_append]
  simp [Sha.b8, h]
theorem zs_iff (E : List UInt8) (i : Nat) : zs E i = true ↔ ∀ c ∈ E.take i, c = 0 := by simp [zs]
theorem tb_zero {c : UInt8} (h : c = 0) : tb c = 0 := by subst h; rfl
theorem tb_some {c : UInt8} (h : c ≠ 0) : (tb c == 0) = false := by
  rw [beq_eq_false_iff_ne]
  intro h2
  apply h
  unfold tb at h2
  exact UInt8.toNat_inj.1 (Int.ofNat.inj h2)

structure Rel (g c k : Nat) (w wr : World) (F E : List UInt8) (i : Nat) : Prop where
  below : Below w.heap.size w wr
  row : Own w.heap.size wr (.slice (some ⟨g, 0, none⟩) F.length c) (hit F k E i)
  by_ : Arr wr w.heap.size 38 (E.map eb)

theorem Rel.step {g c k : Nat} {w wr : World} {F E : List UInt8} {i : Nat} (h : Rel g c k w wr F E i) (hE : E.length = 4) (hgw : w.heap.size < g) (hi : i < 4) (hk : k + i < F.length) :
    wr.cell? ⟨g, k + i, none⟩ = some (eb (Sha.b8 F (k + i))) ∧ wr.frozen? ⟨g, k + i, none⟩ = false ∧ wr.cell? ⟨w.heap.size, i, none⟩ = some (eb (Sha.b8 E i)) ∧
      Rel g c k w (wr.setCell ⟨g, k + i, none⟩ (eb (Sha.b8 F (k + i) ^^^ Sha.b8 E i))) F E (i + 1) := by
  have hlen := hit_length F k E i (by omega) (by omega)
  have hat := hit_at F k E i hk (by omega)
  have hset := hit_set F k E i hk (by omega)
  obtain ⟨g', e1, hcf, hff⟩ := h.row.at hlen (k + i) hk
  injection e1 with e1
  injection e1 with e1
  subst e1
  rw [hat] at hcf
  have hw1 := h.row.set hlen (k + i) (Sha.b8 F (k + i) ^^^ Sha.b8 E i)
  rw [hset] at hw1
  refine ⟨hcf, hff, ?_, below_setCell h.below (by simp only; omega) _, hw1.1, h.by_.other (by simp only; omega) _⟩
  rw [h.by_.cell]
  simp [Sha.b8, show i < E.length by omega]

set_option maxRecDepth 100000 in
set_option maxHeartbeats 3200000 in
theorem tells_any (A : Option Addr) (ca : Nat) (l : List UInt8) (n : Int) (E : List UInt8) (hE : E.length = 4) (w : World) (hT : Tab w) (hr : ReadsOf eb 0 w A l.length l) (hn : l.length ≤ 140737488351232) (hn1 : -9223372036854775808 ≤ n) (hn2 : n ≤ 9223372036854775807) :
    Calls Tryd.prog 7 #[.slice A l.length ca, .int .i64 n, .agg (E.map eb).toArray] w (Done w) := by
  have hbx := Arr.new w 38 (E.map eb)
  have hb0 : Below w.heap.size w (w.alloc (.cells (E.map eb).toArray 38)) := (Below.refl _ _).alloc (Nat.le_refl _) _
  have hbx' := Lib.hid hbx
  have hb0' := Lib.hid hb0
  have hE' := Lib.hid hE
  clear hbx hb0 hE
  go_enter Tryd.func7, Tryd.ntmps7
  go_wp2_with fail
  generalize w.alloc (.cells (E.map eb).toArray 38) = w0 at hbx' hb0' ⊢
  refine (Awake.awake_any w0 (hT.on hb0'.out)).mono ?_
  rintro e w1 ⟨rfl, hb1⟩
  have hB1 := Lib.hid (hb0'.out.trans (hb1.mono hb0'.out.size))
  have hbx1 := Lib.hid (hbx'.out.below hb1)
  have hS1 := hB1.out.size
  obtain ⟨F, hF⟩ : ∃ F, F = frame l := ⟨_, rfl⟩
  have hFl : F.length = l.length + 4 := by rw [hF]; exact frame_length l
  have c1 := Frame.frame_any A l.length ca l w1 (hT.on hB1.out) (hr.below hB1.out) hn
  rw [← hF] at c1
  have c1' := Lib.hid c1
  have hF' := Lib.hid hF
  have hFa : F.length ≤ l.length + 4 := Nat.le_of_eq hFl
  have hFb : l.length + 4 ≤ F.length := Nat.le_of_eq hFl.symm
  clear hF hFl c1 hbx' hb0' hb1
  go_wp2_with fail
  refine c1'.out.mono ?_
  rintro e w2 ⟨v, rfl, ho, hb2⟩
  have hB2 := Lib.hid (hB1.out.trans (hb2.mono hS1))
  have hbx2 := Lib.hid (hbx1.out.below hb2)
  obtain ⟨A2, c2, rfl, hc2, _⟩ := own_reads_of_le (d := (0 : UInt8)) ho
  obtain ⟨g, cp', e1, hg0, hg1⟩ := ho.form (by omega)
  injection e1 with e1 e2 e3
  subst e1
  have hgw : w.heap.size < g := by have := hbx1.out.lt; omega
  have ho2 : Own w.heap.size w2 (.slice (some ⟨g, 0, none⟩) F.length c2) F := own_weaken ho hS1
  have hg2 : g < w2.heap.size := hg1
  have ho2' := Lib.hid ho2
  clear c1' ho hb2 hB1 hbx1 hS1 e2 e3 hg0 hg1 ho2
  obtain ⟨k, hk, hkF⟩ : ∃ k : Nat, (if n < 0 then -(n + 1) else n) % (F.length : Int) = (k : Int) ∧ k < F.length := by
    have hp : 0 < (F.length : Int) := by omega
    have h0 := Int.emod_nonneg (if n < 0 then -(n + 1) else n) (show (F.length : Int) ≠ 0 by omega)
    have h1 := Int.emod_lt_of_pos (if n < 0 then -(n + 1) else n) hp
    exact ⟨((if n < 0 then -(n + 1) else n) % (F.length : Int)).toNat, by omega, by omega⟩
  have hI : Hid (Rel g c2 k w w2 F E 0) := ⟨hB2.out, by rw [hit_zero]; exact ho2'.out, hbx2.out⟩
  clear hB2 ho2' hbx2
  by_cases hneg : n < 0
  · rw [if_pos hneg] at hk
    go_upto_region 7 with fail
    obtain ⟨n2, hn2'⟩ : ∃ n2, n2 = -(n + 1) := ⟨_, rfl⟩
    rw [← hn2'] at hk ⊢
    have hn3 : 0 ≤ n2 := by omega
    have hn4 : n2 ≤ 9223372036854775807 := by omega
    clear hn2' hneg hn1 hn2
    go_wp2_with fail
    rw [hk, show ((F.length : Int) != (l.length : Int) + 4) = false by rw [bne_eq_false_iff_eq]; omega]
    clear hk
    go_loopg [10, 11] 4 (fun j s10 s11 wr => ∃ i : Nat, i + j = 4 ∧ k + i ≤ F.length ∧ s11 = .int .i64 (i : Int) ∧ ∃ B : Bool, s10 = .bool B ∧ Hid (B = zs E i) ∧ Hid (Rel g c2 k w wr F E i))
    case atStart => exact ⟨0, by omega, by omega, rfl, true, rfl, (zs_zero E).symm, hI⟩
    case round =>
      clear hI
      obtain ⟨i, hij, hki, rfl, B, rfl, hB, hJ⟩ := hrel
      by_cases hi : i < 4 ∧ k + i < F.length
      · obtain ⟨hi4, hkF2⟩ := hi
        obtain ⟨hcf, hff, hcb, _⟩ := hJ.out.step hE'.out hgw hi4 hkF2
        have hJd : Hid (Rel g c2 k w { wr with drawn := wr.drawn + 1 } F E i) := ⟨below_drewN hJ.out.below 1, hJ.out.row, hJ.out.by_⟩
        obtain ⟨x, hx⟩ : ∃ x, x = Sha.b8 F (k + i) := ⟨_, rfl⟩
        obtain ⟨y, hy⟩ : ∃ y, y = Sha.b8 E i := ⟨_, rfl⟩
        rw [← hx] at hcf
        rw [← hy] at hcb
        have hxy := xor_tb x y
        have hzn := Lib.hid (show zs E (i + 1) = (zs E i && y == 0) by rw [hy]; exact zs_step E i (by have := hE'.out; omega))
        have hx0 : 0 ≤ (i : Int) := by omega
        have hx1 : (i : Int) < 4 := by omega
        have hx2 : 0 ≤ (k : Int) + (i : Int) := by omega
        have hx3 : (k : Int) + (i : Int) < (F.length : Int) := by omega
        have hx4 : ((k : Int) + (i : Int)).toNat = k + i := by omega
        have hx5 : IntKind.i64.wrap ((k : Int) + (i : Int)) = (k : Int) + (i : Int) := IntWalk.i64_in _ (by omega)
        have hx' := Lib.hid hx
        have hy' := Lib.hid hy
        clear hJ hx hy
        go_upto_region 12 with fail
        go_still_tail 15, (by kernel_rfl)
        clear hx4 hx5 hcf hff hcb hxy
        generalize ({ wr with drawn := wr.drawn + 1 } : World) = w3 at hJd ⊢
        obtain ⟨hcf, hff, _, hR⟩ := hJd.out.step hE'.out hgw hi4 hkF2
        rw [← hx'.out] at hcf hR
        rw [← hy'.out] at hR
        have hcb3 : (w3.setCell ⟨g, k + i, none⟩ (eb (x ^^^ y))).cell? ⟨w.heap.size, i, none⟩ = some (eb y) := by
          rw [hR.by_.cell, hy'.out]
          have := hE'.out
          simp [Sha.b8, show i < E.length by omega]
        have hR' := Lib.hid hR
        clear hR hJd
        go_upto_region 13 with fail
        clear hcf hff
        replace hcb3 : (w3.setCell ⟨g, k + i, none⟩ (.int .u8 (tb (x ^^^ y)))).cell? ⟨w.heap.size, i, none⟩ = some (eb y) := hcb3
        replace hR' : Hid (Rel g c2 k w (w3.setCell ⟨g, k + i, none⟩ (.int .u8 (tb (x ^^^ y)))) F E (i + 1)) := hR'
        generalize w3.setCell ⟨g, k + i, none⟩ (.int .u8 (tb (x ^^^ y))) = w4 at hcb3 hR' ⊢
        cases hBv : B with
        | true =>
          by_cases hy0 : y = 0
          · have h1 := tb_zero hy0
            have hnext : Hid (true = zs E (i + 1)) := by
              show true = _
              rw [hzn.out, ← hB.out, hBv, hy0]
              rfl
            clear hy0 hBv
            go_wp2_with fail
            go_roundg (gk - 1)
            case measure => omega
            case rel => exact ⟨i + 1, by omega, by omega, by simp, true, rfl, hnext, hR'⟩
          · have h1 := tb_some hy0
            have hnext : Hid (false = zs E (i + 1)) := by
              show false = _
              rw [hzn.out, ← hB.out, hBv]
              simp [hy0]
            clear hy0 hBv
            go_wp2_with fail
            go_roundg (gk - 1)
            case measure => omega
            case rel => exact ⟨i + 1, by omega, by omega, by simp, false, rfl, hnext, hR'⟩
        | false =>
          have hnext : Hid (false = zs E (i + 1)) := by
            show false = _
            rw [hzn.out, ← hB.out, hBv]
            rfl
          clear hBv hcb3
          go_wp2_with fail
          go_roundg (gk - 1)
          case measure => omega
          case rel => exact ⟨i + 1, by omega, by omega, by simp, false, rfl, hnext, hR'⟩
      · have hend : ¬ (i : Int) < 4 ∨ ((i : Int) < 4 ∧ ¬ (k : Int) + (i : Int) < (F.length : Int)) := by omega
        have hTr := hT.on hJ.out.below
        have hrr := hr.below hJ.out.below
        have hSr := hJ.out.below.size
        obtain ⟨Q, hQ⟩ : ∃ Q, Q = hit F k E i := ⟨_, rfl⟩
        have hQl : Q.length = F.length := by rw [hQ]; exact hit_length F k E i hki (by have := hE'.out; omega)
        have hrow := hJ.out.row
        rw [← hQ] at hrow
        obtain ⟨A7, c7, e7, _, hr7⟩ := own_reads_of_le (d := (0 : UInt8)) hrow
        injection e7 with e7 e8 e9
        subst e7
        rw [hQl] at hr7
        clear e8 e9
        have hop : opened Q = if B = true then (l, true) else ([], false) := by
          rw [hQ, hF'.out, hit_opens l k E i (by rw [← hF'.out]; exact hki) (by have := hE'.out; omega) (by omega)]
          by_cases hz : ∀ c ∈ E.take i, c = 0
          · rw [if_pos hz, if_pos (by rw [hB.out]; exact (zs_iff E i).2 hz)]
          · rw [if_neg hz, if_neg (by rw [hB.out]; exact fun h => hz ((zs_iff E i).1 h))]
        have o1 := Open.open_any (some ⟨g, 0, none⟩) F.length c2 Q wr hTr hr7 (by omega) hc2
        have hbl := Lib.hid hJ.out.below
        have hrr' := Lib.hid hrr
        cases hBv : B with
        | true =>
          rw [hop, hBv, if_pos rfl] at o1
          have o1' := Lib.hid o1
          clear o1 hop hrow hr7 hTr hrr hJ hB hQ hQl hi hT hr hBv
          rcases hend with h1 | ⟨h1, h2⟩
          · go_wp2_with fail
            refine o1'.out.mono ?_
            rintro e w9 ⟨v9, rfl, ho9, hb9⟩
            have hB9 := Lib.hid (hbl.out.trans (hb9.mono hSr))
            obtain ⟨A9, c9, rfl, _, hr9⟩ := own_reads_of_le (d := (0 : UInt8)) ho9
            have s9 := string_of (c := c9) hr9
            have sl := string_of (c := ca) (hrr'.out.below hb9)
            have hst : ((str l).toList == (str l).toList) = true := str_same rfl
            clear ho9 hr9 hb9
            go_wp2_with fail
            go_ret
            exact ⟨rfl, hB9.out⟩
          · go_wp2_with fail
            refine o1'.out.mono ?_
            rintro e w9 ⟨v9, rfl, ho9, hb9⟩
            have hB9 := Lib.hid (hbl.out.trans (hb9.mono hSr))
            obtain ⟨A9, c9, rfl, _, hr9⟩ := own_reads_of_le (d := (0 : UInt8)) ho9
            have s9 := string_of (c := c9) hr9
            have sl := string_of (c := ca) (hrr'.out.below hb9)
            have hst : ((str l).toList == (str l).toList) = true := str_same rfl
            clear ho9 hr9 hb9
            go_wp2_with fail
            go_ret
            exact ⟨rfl, hB9.out⟩
        | false =>
          rw [hop, hBv, if_neg (by simp)] at o1
          have o1' := Lib.hid o1
          clear o1 hop hrow hr7 hTr hrr hJ hB hQ hQl hi hT hr hBv
          rcases hend with h1 | ⟨h1, h2⟩
          · go_wp2_with fail
            refine o1'.out.mono ?_
            rintro e w9 ⟨v9, rfl, ho9, hb9⟩
            have hB9 := Lib.hid (hbl.out.trans (hb9.mono hSr))
            obtain ⟨A9, c9, rfl, _, hr9⟩ := own_reads_of_le (d := (0 : UInt8)) ho9
            clear ho9 hr9 hb9
            go_wp2_with fail
            go_ret
            exact ⟨rfl, hB9.out⟩
          · go_wp2_with fail
            refine o1'.out.mono ?_
            rintro e w9 ⟨v9, rfl, ho9, hb9⟩
            have hB9 := Lib.hid (hbl.out.trans (hb9.mono hSr))
            obtain ⟨A9, c9, rfl, _, hr9⟩ := own_reads_of_le (d := (0 : UInt8)) ho9
            clear ho9 hr9 hb9
            go_wp2_with fail
            go_ret
            exact ⟨rfl, hB9.out⟩
  · rw [if_neg hneg] at hk
    go_wp2_with fail
    rw [hk, show ((F.length : Int) != (l.length : Int) + 4) = false by rw [bne_eq_false_iff_eq]; omega]
    clear hk
    go_loopg [10, 11] 4 (fun j s10 s11 wr => ∃ i : Nat, i + j = 4 ∧ k + i ≤ F.length ∧ s11 = .int .i64 (i : Int) ∧ ∃ B : Bool, s10 = .bool B ∧ Hid (B = zs E i) ∧ Hid (Rel g c2 k w wr F E i))
    case atStart => exact ⟨0, by omega, by omega, rfl, true, rfl, (zs_zero E).symm, hI⟩
    case round =>
      clear hI
      obtain ⟨i, hij, hki, rfl, B, rfl, hB, hJ⟩ := hrel
      by_cases hi : i < 4 ∧ k + i < F.length
      · obtain ⟨hi4, hkF2⟩ := hi
        obtain ⟨hcf, hff, hcb, _⟩ := hJ.out.step hE'.out hgw hi4 hkF2
        have hJd : Hid (Rel g c2 k w { wr with drawn := wr.drawn + 1 } F E i) := ⟨below_drewN hJ.out.below 1, hJ.out.row, hJ.out.by_⟩
        obtain ⟨x, hx⟩ : ∃ x, x = Sha.b8 F (k + i) := ⟨_, rfl⟩
        obtain ⟨y, hy⟩ : ∃ y, y = Sha.b8 E i := ⟨_, rfl⟩
        rw [← hx] at hcf
        rw [← hy] at hcb
        have hxy := xor_tb x y
        have hzn := Lib.hid (show zs E (i + 1) = (zs E i && y == 0) by rw [hy]; exact zs_step E i (by have := hE'.out; omega))
        have hx0 : 0 ≤ (i : Int) := by omega
        have hx1 : (i : Int) < 4 := by omega
        have hx2 : 0 ≤ (k : Int) + (i : Int) := by omega
        have hx3 : (k : Int) + (i : Int) < (F.length : Int) := by omega
        have hx4 : ((k : Int) + (i : Int)).toNat = k + i := by omega
        have hx5 : IntKind.i64.wrap ((k : Int) + (i : Int)) = (k : Int) + (i : Int) := IntWalk.i64_in _ (by omega)
        have hx' := Lib.hid hx
        have hy' := Lib.hid hy
        clear hJ hx hy
        go_upto_region 12 with fail
        go_still_tail 15, (by kernel_rfl)
        clear hx4 hx5 hcf hff hcb hxy
        generalize ({ wr with drawn := wr.drawn + 1 } : World) = w3 at hJd ⊢
        obtain ⟨hcf, hff, _, hR⟩ := hJd.out.step hE'.out hgw hi4 hkF2
        rw [← hx'.out] at hcf hR
        rw [← hy'.out] at hR
        have hcb3 : (w3.setCell ⟨g, k + i, none⟩ (eb (x ^^^ y))).cell? ⟨w.heap.size, i, none⟩ = some (eb y) := by
          rw [hR.by_.cell, hy'.out]
          have := hE'.out
          simp [Sha.b8, show i < E.length by omega]
        have hR' := Lib.hid hR
        clear hR hJd
        go_upto_region 13 with fail
        clear hcf hff
        replace hcb3 : (w3.setCell ⟨g, k + i, none⟩ (.int .u8 (tb (x ^^^ y)))).cell? ⟨w.heap.size, i, none⟩ = some (eb y) := hcb3
        replace hR' : Hid (Rel g c2 k w (w3.setCell ⟨g, k + i, none⟩ (.int .u8 (tb (x ^^^ y)))) F E (i + 1)) := hR'
        generalize w3.setCell ⟨g, k + i, none⟩ (.int .u8 (tb (x ^^^ y))) = w4 at hcb3 hR' ⊢
        cases hBv : B with
        | true =>
          by_cases hy0 : y = 0
          · have h1 := tb_zero hy0
            have hnext : Hid (true = zs E (i + 1)) := by
              show true = _
              rw [hzn.out, ← hB.out, hBv, hy0]
              rfl
            clear hy0 hBv
            go_wp2_with fail
            go_roundg (gk - 1)
            case measure => omega
            case rel => exact ⟨i + 1, by omega, by omega, by simp, true, rfl, hnext, hR'⟩
          · have h1 := tb_some hy0
            have hnext : Hid (false = zs E (i + 1)) := by
              show false = _
              rw [hzn.out, ← hB.out, hBv]
              simp [hy0]
            clear hy0 hBv
            go_wp2_with fail
            go_roundg (gk - 1)
            case measure => omega
            case rel => exact ⟨i + 1, by omega, by omega, by simp, false, rfl, hnext, hR'⟩
        | false =>
          have hnext : Hid (false = zs E (i + 1)) := by
            show false = _
            rw [hzn.out, ← hB.out, hBv]
            rfl
          clear hBv hcb3
          go_wp2_with fail
          go_roundg (gk - 1)
          case measure => omega
          case rel => exact ⟨i + 1, by omega, by omega, by simp, false, rfl, hnext, hR'⟩
      · have hend : ¬ (i : Int) < 4 ∨ ((i : Int) < 4 ∧ ¬ (k : Int) + (i : Int) < (F.length : Int)) := by omega
        have hTr := hT.on hJ.out.below
        have hrr := hr.below hJ.out.below
        have hSr := hJ.out.below.size
        obtain ⟨Q, hQ⟩ : ∃ Q, Q = hit F k E i := ⟨_, rfl⟩
        have hQl : Q.length = F.length := by rw [hQ]; exact hit_length F k E i hki (by have := hE'.out; omega)
        have hrow := hJ.out.row
        rw [← hQ] at hrow
        obtain ⟨A7, c7, e7, _, hr7⟩ := own_reads_of_le (d := (0 : UInt8)) hrow
        injection e7 with e7 e8 e9
        subst e7
        rw [hQl] at hr7
        clear e8 e9
        have hop : opened Q = if B = true then (l, true) else ([], false) := by
          rw [hQ, hF'.out, hit_opens l k E i (by rw [← hF'.out]; exact hki) (by have := hE'.out; omega) (by omega)]
          by_cases hz : ∀ c ∈ E.take i, c = 0
          · rw [if_pos hz, if_pos (by rw [hB.out]; exact (zs_iff E i).2 hz)]
          · rw [if_neg hz, if_neg (by rw [hB.out]; exact fun h => hz ((zs_iff E i).1 h))]
        have o1 := Open.open_any (some ⟨g, 0, none⟩) F.length c2 Q wr hTr hr7 (by omega) hc2
        have hbl := Lib.hid hJ.out.below
        have hrr' := Lib.hid hrr
        cases hBv : B with
        | true =>
          rw [hop, hBv, if_pos rfl] at o1
          have o1' := Lib.hid o1
          clear o1 hop hrow hr7 hTr hrr hJ hB hQ hQl hi hT hr hBv
          rcases hend with h1 | ⟨h1, h2⟩
          · go_wp2_with fail
            refine o1'.out.mono ?_
            rintro e w9 ⟨v9, rfl, ho9, hb9⟩
            have hB9 := Lib.hid (hbl.out.trans (hb9.mono hSr))
            obtain ⟨A9, c9, rfl, _, hr9⟩ := own_reads_of_le (d := (0 : UInt8)) ho9
            have s9 := string_of (c := c9) hr9
            have sl := string_of (c := ca) (hrr'.out.below hb9)
            have hst : ((str l).toList == (str l).toList) = true := str_same rfl
            clear ho9 hr9 hb9
            go_wp2_with fail
            go_ret
            exact ⟨rfl, hB9.out⟩
          · go_wp2_with fail
            refine o1'.out.mono ?_
            rintro e w9 ⟨v9, rfl, ho9, hb9⟩
            have hB9 := Lib.hid (hbl.out.trans (hb9.mono hSr))
            obtain ⟨A9, c9, rfl, _, hr9⟩ := own_reads_of_le (d := (0 : UInt8)) ho9
            have s9 := string_of (c := c9) hr9
            have sl := string_of (c := ca) (hrr'.out.below hb9)
            have hst : ((str l).toList == (str l).toList) = true := str_same rfl
            clear ho9 hr9 hb9
            go_wp2_with fail
            go_ret
            exact ⟨rfl, hB9.out⟩
        | false =>
          rw [hop, hBv, if_neg (by simp)] at o1
          have o1' := Lib.hid o1
          clear o1 hop hrow hr7 hTr hrr hJ hB hQ hQl hi hT hr hBv
          rcases hend with h1 | ⟨h1, h2⟩
          · go_wp2_with fail
            refine o1'.out.mono ?_
            rintro e w9 ⟨v9, rfl, ho9, hb9⟩
            have hB9 := Lib.hid (hbl.out.trans (hb9.mono hSr))
            obtain ⟨A9, c9, rfl, _, hr9⟩ := own_reads_of_le (d := (0 : UInt8)) ho9
            clear ho9 hr9 hb9
            go_wp2_with fail
            go_ret
            exact ⟨rfl, hB9.out⟩
          · go_wp2_with fail
            refine o1'.out.mono ?_
            rintro e w9 ⟨v9, rfl, ho9, hb9⟩
            have hB9 := Lib.hid (hbl.out.trans (hb9.mono hSr))
            obtain ⟨A9, c9, rfl, _, hr9⟩ := own_reads_of_le (d := (0 : UInt8)) ho9
            clear ho9 hr9 hb9
            go_wp2_with fail
            go_ret
            exact ⟨rfl, hB9.out⟩
end Go.Proofs.YtcfgcbcciaeabaaDoor.SumTells
