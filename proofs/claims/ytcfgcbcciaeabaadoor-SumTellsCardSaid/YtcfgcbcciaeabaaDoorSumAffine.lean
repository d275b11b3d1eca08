/- SumAffine: of three rows exchanged bit by bit the sum is that of their sums, exchanged likewise. -/
import Derived.Test.YtcfgcbcciaeabaaDoorAwake
import Derived.Laws.BitsAllLaws
import Derived.Deep.RegionHeld3
import Derived.Test.YtcfgcbcciaeabaaDoorStep
import Derived.Test.YtcfgcbcciaeabaaDoorSumParts
import Derived.Laws.Cover1
namespace Go.Proofs.YtcfgcbcciaeabaaDoor.SumAffine
open Go.RowKit Go.Proofs.YtcfgcbcciaeabaaDoor.Bv Go.Proofs.YtcfgcbcciaeabaaDoor.Mem
open Go.Proofs.YtcfgcbcciaeabaaDoorW.PrintWords
open Go.Proofs.YtcfgcbcciaeabaaDoor.Crc
open Go.Proofs.YtcfgcbcciaeabaaDoor.More (Tab sumP)
open Go.Proofs.YtcfgcbcciaeabaaDoor.Obj (info5)
open Go.Proofs.YtcfgcbcciaeabaaDoor.Str
open Go.Proofs.YtcfgcbcciaeabaaDoor.Hold
open Go.Proofs.YtcfgcbcciaeabaaDoor.SumParts (sum_at)

theorem xor_tb (a b : UInt8) : bits .xor .u8 (tb a) (tb b) = tb (a ^^^ b) := by
  have h := u8_xor_nat a.toNat b.toNat a.toNat_lt b.toNat_lt
  unfold tb
  rw [h, UInt8.toNat_xor]
theorem xor_tn (x y : W) : bits .xor .i64 (tn x) (tn y) = tn (x ^^^ y) := by
  have key : ∀ z : W, (BitVec.ofInt 64 (tn z)).toNat = z.toNat := fun z => by
    unfold tn
    rw [BitVec.toNat_ofInt]
    have := z.isLt
    omega
  show IntKind.i64.wrap ((BitVec.ofInt 64 (tn x) ^^^ BitVec.ofInt 64 (tn y)).toNat : Nat) = _
  rw [BitVec.toNat_xor, key, key, ← BitVec.toNat_xor]
  have := (x ^^^ y).isLt
  rw [IntKind.wrap_i64]
  unfold tn
  omega
theorem mix_at (a b : List UInt8) (i : Nat) (ha : i < a.length) (hb : i < b.length) : (mix a b)[i]? = some (Sha.b8 a i ^^^ Sha.b8 b i) := by
  unfold mix
  rw [List.getElem?_zipWith]
  simp [Sha.b8, ha, hb]
theorem mix_length (a b : List UInt8) : (mix a b).length = min a.length b.length := by unfold mix; simp
theorem b8_take (l : List UInt8) (N i : Nat) (h : i < N) : Sha.b8 (l.take N) i = Sha.b8 l i := by
  simp [Sha.b8, h]
theorem mix3 (a b c : List UInt8) (i : Nat) (ha : i < a.length) (hb : i < b.length) (hc : i < c.length) :
    (mix (mix a b) c).take (i + 1) = (mix (mix a b) c).take i ++ [Sha.b8 a i ^^^ Sha.b8 b i ^^^ Sha.b8 c i] := by
  have hm : i < (mix a b).length := by rw [mix_length]; omega
  have h1 := mix_at (mix a b) c i hm hc
  have h2 := mix_at a b i ha hb
  have hl : i < (mix (mix a b) c).length := by rw [mix_length]; omega
  have e : Sha.b8 (mix a b) i = Sha.b8 a i ^^^ Sha.b8 b i := by
    unfold Sha.b8
    rw [List.getD_eq_getElem?_getD, h2]
    rfl
  rw [List.take_succ_eq_append_getElem hl]
  congr 2
  rw [List.getElem?_eq_getElem hl, e] at h1
  exact Option.some.inj h1

set_option maxRecDepth 100000 in
set_option maxHeartbeats 3200000 in
theorem affine_any (A B C : Option Addr) (ca cb cc : Nat) (a b c : List UInt8) (w : World) (hT : Tab w) (ha : ReadsOf eb 0 w A a.length a) (hb : ReadsOf eb 0 w B b.length b) (hc : ReadsOf eb 0 w C c.length c)
    (hac : a.length ≤ ca) (hbc : b.length ≤ cb) (hcc : c.length ≤ cc) (hna : a.length ≤ 140737488351232) :
    Calls Tryd.prog 9 #[.slice A a.length ca, .slice B b.length cb, .slice C c.length cc] w (Done w) := by
  go_enter Tryd.func9, Tryd.ntmps9
  go_wp2_with fail
  refine (Awake.awake_any w hT).mono ?_
  rintro e w1 ⟨rfl, hb1⟩
  have hT1 := hT.on hb1
  have ha1 := ha.below hb1
  have hb1' := hb.below hb1
  have hc1 := hc.below hb1
  go_upto_region 3 with (fail)
  have hB : ∃ N : Nat, (if (c.length : Int) < (if b.length < a.length then (b.length : Int) else (a.length : Int)) then (c.length : Int) else (if b.length < a.length then (b.length : Int) else (a.length : Int))) = (N : Int) ∧ N ≤ a.length ∧ N ≤ b.length ∧ N ≤ c.length := by
    refine ⟨min c.length (min b.length a.length), ?_, by omega, by omega, by omega⟩
    split <;> split <;> omega
  obtain ⟨N, hN, hNa, hNb, hNc⟩ := hB
  rw [hN]
  have la := part_take A ca a N (N : Int) rfl hNa hac
  have lb := part_take B cb b N (N : Int) rfl hNb hbc
  have lc := part_take C cc c N (N : Int) rfl hNc hcc
  obtain ⟨la1, la2⟩ := la
  obtain ⟨lb1, lb2⟩ := lb
  obtain ⟨lc1, lc2⟩ := lc
  have ra := la2 w1 ha1
  have rb := lb2 w1 hb1'
  have rc := lc2 w1 hc1
  obtain ⟨a2, ea⟩ : ∃ x, x = a.take N := ⟨_, rfl⟩
  obtain ⟨b2, eb2⟩ : ∃ x, x = b.take N := ⟨_, rfl⟩
  obtain ⟨c2, ec⟩ : ∃ x, x = c.take N := ⟨_, rfl⟩
  rw [← ea] at ra
  rw [← eb2] at rb
  rw [← ec] at rc
  have hal := ra.1
  have hbl := rb.1
  have hcl := rc.1
  have hML : (mix (mix a2 b2) c2).length = N := by rw [mix_length, mix_length]; omega
  have hsum := sum_three a2 b2 c2 (by omega) (by omega)
  have ra' := Lib.hid ra
  have rb' := Lib.hid rb
  have rc' := Lib.hid rc
  have la1' := Lib.hid la1
  have lb1' := Lib.hid lb1
  have lc1' := Lib.hid lc1
  have hal' := Lib.hid hal
  have hbl' := Lib.hid hbl
  have hcl' := Lib.hid hcl
  have hML' := Lib.hid hML
  have hsum' := Lib.hid hsum
  have hB1 := Lib.hid hb1
  clear hN la1 la2 lb1 lb2 lc1 lc2 ra rb rc ea eb2 ec hal hbl hcl hML hsum ha1 hb1' hc1 hb1 hT1 hac hbc hcc
  go_wp2_with fail
  go_loopg [9, 10] N (fun k s9 s10 wr => ∃ i : Nat, i + k = N ∧ s10 = .int .i64 (i : Int) ∧ ∃ L : List UInt8, Hid (L = (mix (mix a2 b2) c2).take i) ∧ L.length = i ∧ Hid (wr.ownsRow w1.heap.size 5 1 s9 L.length (encs eb L)) ∧ Hid (Below w1.heap.size w1 wr))
  case atStart => exact ⟨0, by omega, rfl, [], rfl, rfl, own_nil _ _ _ _, Below.refl _ _⟩
  case round =>
    obtain ⟨i, hik, rfl, L, hL, hLl, hO, hBw⟩ := hrel
    by_cases hi : i < N
    · have hra := ra'.out.below hBw.out
      have hrb := rb'.out.below hBw.out
      have hrc := rc'.out.below hBw.out
      obtain ⟨aa, rfl⟩ := reads_some hra (by omega)
      obtain ⟨ab, rfl⟩ := reads_some hrb (by omega)
      obtain ⟨ac, rfl⟩ := reads_some hrc (by omega)
      have hca := reads_cell hra i hi
      have hcb := reads_cell hrb i hi
      have hcc := reads_cell hrc i hi
      have hstep := mix3 a2 b2 c2 i (by have := hal'.out; omega) (by have := hbl'.out; omega) (by have := hcl'.out; omega)
      obtain ⟨xa, hxa⟩ : ∃ x, x = Sha.b8 a2 i := ⟨_, rfl⟩
      obtain ⟨xb, hxb⟩ : ∃ x, x = Sha.b8 b2 i := ⟨_, rfl⟩
      obtain ⟨xc, hxc⟩ : ∃ x, x = Sha.b8 c2 i := ⟨_, rfl⟩
      rw [← hxa] at hca hstep
      rw [← hxb] at hcb hstep
      rw [← hxc] at hcc hstep
      have hx1 := xor_tb xa xb
      have hx2 := xor_tb (xa ^^^ xb) xc
      obtain ⟨y, hy⟩ : ∃ y, y = xa ^^^ xb ^^^ xc := ⟨_, rfl⟩
      rw [← hy] at hx2 hstep
      have hnext : Hid (L ++ [y] = (mix (mix a2 b2) c2).take (i + 1)) := by
        show _ = _
        rw [hstep, hL.out]
      have hLl' := Lib.hid hLl
      have hLb : L.length ≤ 140737488351232 := by omega
      have hxa' := Lib.hid hxa
      have hxb' := Lib.hid hxb
      have hxc' := Lib.hid hxc
      clear hra hrb hrc hxa hxb hxc hy hstep hLl
      have x0 : 0 ≤ (i : Int) := by omega
      have x1 : (i : Int) < (a.length : Int) := by omega
      have x2 : (i : Int) < (b.length : Int) := by omega
      have x3 : (i : Int) < (c.length : Int) := by omega
      have x4 : i < a.length := by omega
      have x5 : i < b.length := by omega
      have x6 : i < c.length := by omega
      clear hca hcb hcc
      go_wp2_with fail
      refine wp_region_held_drew (S := (fun W : World => Below w1.heap.size w1 W)) (by kernel_rfl) ?_ (fun hHeld => ?_)
      · exact below_drewN hBw.out 1
      have hOd : Hid (wr.drew.ownsRow w1.heap.size 5 1 u9 L.length (encs eb L)) := hO
      generalize wr.drew = W0 at hOd hHeld ⊢
      have hH0 := Lib.hid hHeld
      refine wpAnyH_take (i := 0) (oi := ⟨some 27, _, _, _, _, _⟩) (v := ?v1) rfl (by kernel_rfl) (by kernel_rfl) (by kernel_rfl) (fun _ _ _ h => h) (Or.inl ⟨by rfl, ?y1⟩) (by assumption) ?r1
      case y1 => (intro w hSw; (try dsimp only at hSw); first | (go_simp; done) | (go_simp; with_reducible rfl))
      case' r1 => (simp only [Act.put, List.setIfInBounds_toArray, List.set_cons_zero, List.set_cons_succ])
      refine wpAnyH_take (i := 1) (oi := ⟨some 28, _, _, _, _, _⟩) (v := ?v2) rfl (by kernel_rfl) (by kernel_rfl) (by kernel_rfl) (fun _ _ _ h => h) (Or.inl ⟨by rfl, ?y2⟩) (by assumption) ?r2
      case y2 => (intro w hSw; (try dsimp only at hSw); first | (go_simp; done) | (go_simp; with_reducible rfl))
      case' r2 => (simp only [Act.put, List.setIfInBounds_toArray, List.set_cons_zero, List.set_cons_succ])
      refine wpAnyH_take (i := 2) (oi := ⟨some 29, _, _, _, _, _⟩) (v := ?v3) rfl (by kernel_rfl) (by kernel_rfl) (by kernel_rfl) (fun _ _ _ h => h) (Or.inl ⟨by rfl, ?y3⟩) (by assumption) ?r3
      case y3 => (intro w hSw; (try dsimp only at hSw); first | (go_simp; done) | (go_simp; with_reducible rfl))
      case' r3 => (simp only [Act.put, List.setIfInBounds_toArray, List.set_cons_zero, List.set_cons_succ])
      refine wpAnyH_take (i := 3) (oi := ⟨some 30, _, _, _, _, _⟩) (v := ?v4) rfl (by kernel_rfl) (by kernel_rfl) (by kernel_rfl) (fun _ _ _ h => h) (Or.inl ⟨by rfl, ?y4⟩) (by assumption) ?r4
      case y4 => (intro w hSw; (try dsimp only at hSw); first | (go_simp; done) | (go_simp; with_reducible rfl))
      case' r4 => (simp only [Act.put, List.setIfInBounds_toArray, List.set_cons_zero, List.set_cons_succ])
      refine wpAnyH_take (i := 4) (oi := ⟨some 31, _, _, _, _, _⟩) (v := ?v5) rfl (by kernel_rfl) (by kernel_rfl) (by kernel_rfl) (fun _ _ _ h => h) (Or.inl ⟨by rfl, ?y5⟩) (by assumption) ?r5
      case y5 => (intro wq hSw; have h1 := reads_cell (ra'.out.below hSw) i hi; rw [← hxa'.out] at h1; clear hSw; first | (go_simp; done) | (go_simp; with_reducible rfl))
      case' r5 => (simp only [Act.put, List.setIfInBounds_toArray, List.set_cons_zero, List.set_cons_succ])
      refine wpAnyH_take (i := 5) (oi := ⟨some 32, _, _, _, _, _⟩) (v := ?v6) rfl (by kernel_rfl) (by kernel_rfl) (by kernel_rfl) (fun _ _ _ h => h) (Or.inl ⟨by rfl, ?y6⟩) (by assumption) ?r6
      case y6 => (intro w hSw; (try dsimp only at hSw); first | (go_simp; done) | (go_simp; with_reducible rfl))
      case' r6 => (simp only [Act.put, List.setIfInBounds_toArray, List.set_cons_zero, List.set_cons_succ])
      refine wpAnyH_take (i := 6) (oi := ⟨some 33, _, _, _, _, _⟩) (v := ?v7) rfl (by kernel_rfl) (by kernel_rfl) (by kernel_rfl) (fun _ _ _ h => h) (Or.inl ⟨by rfl, ?y7⟩) (by assumption) ?r7
      case y7 => (intro w hSw; (try dsimp only at hSw); first | (go_simp; done) | (go_simp; with_reducible rfl))
      case' r7 => (simp only [Act.put, List.setIfInBounds_toArray, List.set_cons_zero, List.set_cons_succ])
      refine wpAnyH_take (i := 7) (oi := ⟨some 34, _, _, _, _, _⟩) (v := ?v8) rfl (by kernel_rfl) (by kernel_rfl) (by kernel_rfl) (fun _ _ _ h => h) (Or.inl ⟨by rfl, ?y8⟩) (by assumption) ?r8
      case y8 => (intro w hSw; (try dsimp only at hSw); first | (go_simp; done) | (go_simp; with_reducible rfl))
      case' r8 => (simp only [Act.put, List.setIfInBounds_toArray, List.set_cons_zero, List.set_cons_succ])
      refine wpAnyH_take (i := 8) (oi := ⟨some 35, _, _, _, _, _⟩) (v := ?v9) rfl (by kernel_rfl) (by kernel_rfl) (by kernel_rfl) (fun _ _ _ h => h) (Or.inl ⟨by rfl, ?y9⟩) (by assumption) ?r9
      case y9 => (intro wq hSw; have h1 := reads_cell (rb'.out.below hSw) i hi; rw [← hxb'.out] at h1; clear hSw; first | (go_simp; done) | (go_simp; with_reducible rfl))
      case' r9 => (simp only [Act.put, List.setIfInBounds_toArray, List.set_cons_zero, List.set_cons_succ])
      refine wpAnyH_take (i := 9) (oi := ⟨some 36, _, _, _, _, _⟩) (v := ?v10) rfl (by kernel_rfl) (by kernel_rfl) (by kernel_rfl) (fun _ _ _ h => h) (Or.inl ⟨by rfl, ?y10⟩) (by assumption) ?r10
      case y10 => (intro w hSw; (try dsimp only at hSw); first | (go_simp; done) | (go_simp; with_reducible rfl))
      case' r10 => (simp only [Act.put, List.setIfInBounds_toArray, List.set_cons_zero, List.set_cons_succ])
      refine wpAnyH_take (i := 10) (oi := ⟨some 37, _, _, _, _, _⟩) (v := ?v11) rfl (by kernel_rfl) (by kernel_rfl) (by kernel_rfl) (fun _ _ _ h => h) (Or.inl ⟨by rfl, ?y11⟩) (by assumption) ?r11
      case y11 => (intro w hSw; (try dsimp only at hSw); first | (go_simp; done) | (go_simp; with_reducible rfl))
      case' r11 => (simp only [Act.put, List.setIfInBounds_toArray, List.set_cons_zero, List.set_cons_succ])
      refine wpAnyH_take (i := 11) (oi := ⟨some 38, _, _, _, _, _⟩) (v := ?v12) rfl (by kernel_rfl) (by kernel_rfl) (by kernel_rfl) (fun _ _ _ h => h) (Or.inl ⟨by rfl, ?y12⟩) (by assumption) ?r12
      case y12 => (intro w hSw; (try dsimp only at hSw); first | (go_simp; done) | (go_simp; with_reducible rfl))
      case' r12 => (simp only [Act.put, List.setIfInBounds_toArray, List.set_cons_zero, List.set_cons_succ])
      refine wpAnyH_take (i := 12) (oi := ⟨some 39, _, _, _, _, _⟩) (v := ?v13) rfl (by kernel_rfl) (by kernel_rfl) (by kernel_rfl) (fun _ _ _ h => h) (Or.inl ⟨by rfl, ?y13⟩) (by assumption) ?r13
      case y13 => (intro w hSw; (try dsimp only at hSw); first | (go_simp; done) | (go_simp; with_reducible rfl))
      case' r13 => (simp only [Act.put, List.setIfInBounds_toArray, List.set_cons_zero, List.set_cons_succ])
      refine wpAnyH_take (i := 13) (oi := ⟨some 40, _, _, _, _, _⟩) (v := ?v14) rfl (by kernel_rfl) (by kernel_rfl) (by kernel_rfl) (fun _ _ _ h => h) (Or.inl ⟨by rfl, ?y14⟩) (by assumption) ?r14
      case y14 => (intro wq hSw; have h1 := reads_cell (rc'.out.below hSw) i hi; rw [← hxc'.out] at h1; clear hSw; first | (go_simp; done) | (go_simp; with_reducible rfl))
      case' r14 => (simp only [Act.put, List.setIfInBounds_toArray, List.set_cons_zero, List.set_cons_succ])
      refine wpAnyH_take (i := 14) (oi := ⟨some 41, _, _, _, _, _⟩) (v := ?v15) rfl (by kernel_rfl) (by kernel_rfl) (by kernel_rfl) (fun _ _ _ h => h) (Or.inl ⟨by rfl, ?y15⟩) (by assumption) ?r15
      case y15 => (intro w hSw; (try dsimp only at hSw); first | (go_simp; done) | (go_simp; with_reducible rfl))
      case' r15 => (simp only [Act.put, List.setIfInBounds_toArray, List.set_cons_zero, List.set_cons_succ])
      refine wpAnyH_ready (rs := [15]) (by kernel_rfl) (by simp) ?_
      refine AllReadyH.cons (o := ⟨some 42, _, _, _, _, _⟩) rfl (fun K hK => ?_) AllReadyH.nil
      go_simp
      refine hK.out _ _ ?_ (fun hHeld => ?_)
      · exact hH0.out.alloc hH0.out.size _
      clear hK K
      try simp only [Act.put, List.setIfInBounds_toArray, List.set_cons_zero, List.set_cons_succ]
      have hrn := reads_new W0 [y] (by simp)
      have hBn : Below w1.heap.size w1 (W0.alloc (.cells (([y] : List UInt8).map eb).toArray 5)) := hH0.out.alloc hH0.out.size _
      have hOn : (W0.alloc (.cells (([y] : List UInt8).map eb).toArray 5)).ownsRow w1.heap.size 5 1 u9 L.length (encs eb L) := World.ownsRow.alloc hOd.out _
      have hBn' := Lib.hid hBn
      have hOn' := Lib.hid hOn
      have hrn' := Lib.hid hrn
      clear hBn hOn hrn hOd
      refine wpAnyH_ready (rs := [16]) (by kernel_rfl) (by simp) ?_
      refine AllReadyH.cons (o := ⟨some 43, _, _, _, _, _⟩) rfl (fun K hK => ?_) AllReadyH.nil
      refine Step.step_append (by rfl) (.tmp 27) (.tmp 42) rfl w1.heap.size u9 L [y] (some ⟨W0.heap.size, 0, none⟩) 1 1 rfl rfl hOn'.out hrn'.out hBn'.out.size (by omega) ?_; intro v4 W4 hO4 hg4; have hB4 := Lib.hid (hBn'.out.grown hg4 hBn'.out.size (fun q e => (hOn'.out.lt q e).1)); have hO4' := Lib.hid hO4; clear hO4 hg4
      refine hK.out _ _ ?_ (fun hHeld => ?_)
      · exact hB4.out
      clear hK K
      try simp only [Act.put, List.setIfInBounds_toArray, List.set_cons_zero, List.set_cons_succ]
      refine wpAnyH_take (i := 17) (oi := ⟨some 9, _, _, _, _, _⟩) (v := ?v16) rfl (by kernel_rfl) (by kernel_rfl) (by kernel_rfl) (fun _ _ _ h => h) (Or.inl ⟨by rfl, ?y16⟩) (by assumption) ?r16
      case y16 => (intro w hSw; (try dsimp only at hSw); first | (go_simp; done) | (go_simp; with_reducible rfl))
      case' r16 => (simp only [Act.put, List.setIfInBounds_toArray, List.set_cons_zero, List.set_cons_succ])
      refine wpAnyH_done (by kernel_rfl) ?_ _
      clear hHeld hH0 hBn' hOn' hrn' hxa' hxb' hxc' hx1 hx2
      go_wp2_with fail
      go_roundg (gk - 1)
      case measure => omega
      case rel => exact ⟨i + 1, by omega, by simp, L ++ [y], hnext, by rw [List.length_append, hLl'.out]; rfl, hO4', hB4⟩
    · obtain rfl : i = N := by omega
      have hLM : L = mix (mix a2 b2) c2 := by rw [hL.out, List.take_of_length_le (by rw [hML'.out]; omega)]
      obtain ⟨sa, hsa⟩ : ∃ x, x = sum a2 := ⟨_, rfl⟩
      obtain ⟨sb, hsb⟩ : ∃ x, x = sum b2 := ⟨_, rfl⟩
      obtain ⟨sc, hsc⟩ : ∃ x, x = sum c2 := ⟨_, rfl⟩
      obtain ⟨u, hu⟩ : ∃ x, x = sa ^^^ sb := ⟨_, rfl⟩
      obtain ⟨q, hq⟩ : ∃ x, x = u ^^^ sc := ⟨_, rfl⟩
      have hqs : q = sum L := by rw [hq, hu, hsa, hsb, hsc, hLM, ← hsum'.out]
      have hx1 := xor_tn sa sb
      have hx2 := xor_tn u sc
      rw [← hu] at hx1
      rw [← hq] at hx2
      have hTr : Tab wr := (hT.on hB1.out).on hBw.out
      obtain ⟨A9, c9, rfl, _, hr9⟩ := own_reads_of_le (d := (0 : UInt8)) hO.out
      have k1 := Lib.hid (sum_at hsa A i ca wr hTr (ra'.out.below hBw.out))
      have k2 := Lib.hid (sum_at hsb B i cb wr hTr (rb'.out.below hBw.out))
      have k3 := Lib.hid (sum_at hsc C i cc wr hTr (rc'.out.below hBw.out))
      have k4 := Lib.hid (sum_at hqs A9 L.length c9 wr hTr hr9)
      have hfin := Lib.hid (hB1.out.trans (hBw.out.mono hB1.out.size))
      have la1 := la1'.out
      have lb1 := lb1'.out
      have lc1 := lc1'.out
      have hLl' := Lib.hid hLl
      clear hL hLl hO hBw hsa hsb hsc hu hq hqs hLM hr9 hTr ra' rb' rc' hal' hbl' hcl' hML' hsum' hT hB1 ha hb hc
      go_wp2_with fail
      refine k1.out.mono ?_
      rintro e w' ⟨rfl, rfl⟩
      go_wp2_with fail
      refine k2.out.mono ?_
      rintro e w' ⟨rfl, rfl⟩
      go_wp2_with fail
      refine k3.out.mono ?_
      rintro e w' ⟨rfl, rfl⟩
      go_wp2_with fail
      refine k4.out.mono ?_
      rintro e w' ⟨rfl, rfl⟩
      clear k1 k2 k3 k4
      go_wp2_with fail
      go_ret
      exact ⟨rfl, hfin.out⟩
end Go.Proofs.YtcfgcbcciaeabaaDoor.SumAffine
