/- HashPlays: every call in every order, on two hashes. -/
import Derived.Test.YtcelojkecfiocaaDoorAwake
import Derived.Test.YtcelojkecfiocaaDoorRefSum
import Derived.Test.YtcelojkecfiocaaDoorLent
import Derived.Test.YtcelojkecfiocaaDoorSums
import Derived.Test.YtcelojkecfiocaaDoorPlayEnd
import Derived.Deep.CutRange
import Derived.Deep.CutBlock
import Derived.BigQuiet
import Derived.Laws.BitsAllLaws
namespace Go.Proofs.YtcelojkecfiocaaDoor.Play
open Go.RowKit Go.Proofs.YtcelojkecfiocaaDoor.Bv Go.Proofs.YtcelojkecfiocaaDoor.Mem
open Go.Proofs.YtcelojkecfiocaaDoorW.PrintWords
open Go.Proofs.YtcelojkecfiocaaDoor.Changed (Tabs RTabs list8)
open Go.Proofs.YtcelojkecfiocaaDoor.Obj Go.Proofs.YtcelojkecfiocaaDoor.Far
open Go.Proofs.YtcelojkecfiocaaDoor.Str
open Go.Proofs.YtcelojkecfiocaaDoor.RefFilled (info5)

theorem i64_and1 (n : Int) : bits .and .i64 n 1 = n % 2 := by
  have h1 : (BitVec.ofInt 64 1).toNat = 2 ^ 1 - 1 := by decide
  have key : (BitVec.ofInt 64 n &&& BitVec.ofInt 64 1).toNat = (n % ((2 ^ 64 : Nat) : Int)).toNat % 2 ^ 1 := by
    rw [BitVec.toNat_and, BitVec.toNat_ofInt, h1, Nat.and_two_pow_sub_one_eq_mod]
  show IntKind.i64.wrap ((BitVec.ofInt 64 n &&& BitVec.ofInt 64 1).toNat : Nat) = n % 2
  rw [key, IntKind.wrap_i64]
  omega

/-- A step of a script: on which of both, what, which bytes. -/
structure OpV where
  on : Int
  act : Int
  A : Option Addr
  c : Nat
  b : List UInt8
/-- The slice at a reads these steps. -/
def ReadsOps (W : World) (a : Option Addr) (ops : List OpV) : Prop := ∀ (j : Nat) (o : OpV), ops[j]? = some o → ∃ ad, a = some ad ∧ W.cell? (ad.add (j * 3)) = some (.int .i64 o.on) ∧ W.cell? (ad.add (j * 3 + 1)) = some (.int .i64 o.act) ∧
  W.cell? (ad.add (j * 3 + 2)) = some (.slice o.A o.b.length o.c) ∧ ReadsOf eb 0 W o.A o.b.length o.b
theorem ReadsOps.below {w W : World} {a : Option Addr} {ops : List OpV} (h : ReadsOps w a ops) (hb : Below w.heap.size w W) : ReadsOps W a ops := by
  intro j o hj
  obtain ⟨ad, e, h0, h1, h2, h3⟩ := h j o hj
  exact ⟨ad, e, (hb.cell (World.block_lt_of_cell? w _ h0)).trans h0, (hb.cell (World.block_lt_of_cell? w _ h1)).trans h1, (hb.cell (World.block_lt_of_cell? w _ h2)).trans h2, h3.below hb⟩
/-- The bytes of the first i steps. -/
def tot (ops : List OpV) (i : Nat) : Nat := ((ops.take i).map fun o => o.b.length).sum
theorem tot_step (ops : List OpV) (i : Nat) (o : OpV) (h : ops[i]? = some o) : tot ops (i + 1) = tot ops i + o.b.length := by
  unfold tot
  rw [List.take_add_one, h]
  simp
theorem tot_le (ops : List OpV) (i : Nat) : tot ops i ≤ (ops.map fun o => o.b.length).sum := by
  unfold tot
  have h : (ops.map fun o => o.b.length).sum = ((ops.take i).map fun o => o.b.length).sum + ((ops.drop i).map fun o => o.b.length).sum := by
    rw [← List.sum_append, ← List.map_append, List.take_append_drop]
  omega

def Post (w : World) (e : Ending) (w' : World) : Prop := e = .returned (.bool true) ∧ Below w.heap.size w w'

set_option maxRecDepth 100000 in
set_option maxHeartbeats 3200000 in
theorem plays_any (A : Option Addr) (c : Nat) (ops : List OpV) (w : World) (hT : Tabs w) (hR : RTabs w) (hr : ReadsOps w A ops) (hn : ops.length ≤ 1048576) (htot : (ops.map fun o => o.b.length).sum ≤ 1048576) :
    Calls Tryd.prog 5 #[.slice A ops.length c] w (Post w) := by
  go_enter Tryd.func5, Tryd.ntmps5
  go_wp2_with fail
  refine (Awake.awake_any w hT).mono ?_
  rintro e w1 ⟨rfl, hb1⟩
  have hT1 := hT.below hb1
  go_wp2_with fail
  refine (new_any w1 hT1).mono ?_
  rintro e w2 ⟨rfl, hh1, hb2⟩
  have hT2 := hT1.below hb2
  go_wp2_with fail
  refine (new_any w2 hT2).mono ?_
  rintro e w3 ⟨rfl, hh2, hb3⟩
  have hp1 := hh1.lt
  have hI : St (Off w3.heap.size (w3.heap.size + 1) (.slice none 0 0) []) w ((w3.alloc (.cells #[ptr w1.heap.size, ptr w2.heap.size] 37)).alloc (.cells #[.slice none 0 0, .slice none 0 0] 38)) w3.heap.size (w3.heap.size + 1) (fun k => if k = 0 then w1.heap.size else w2.heap.size) (fun _ => []) (fun _ => []) (fun _ => .slice none 0 0) (.slice none 0 0) [] := by
    have hs1 := hb1.size
    have hs2 := hb2.size
    have hs3 := hb3.size
    have hB3 : Below w.heap.size w w3 := hb1.trans ((hb2.mono hs1).trans (hb3.mono (Nat.le_trans hs1 hs2)))
    have a1 := Arr.new w3 37 [ptr w1.heap.size, ptr w2.heap.size]
    have a2 := Arr.new (w3.alloc (.cells #[ptr w1.heap.size, ptr w2.heap.size] 37)) 38 [.slice none 0 0, .slice none 0 0]
    have e1 : (w3.alloc (.cells #[ptr w1.heap.size, ptr w2.heap.size] 37)).heap.size = w3.heap.size + 1 := by simp
    rw [e1] at a2
    have hbb : Below w3.heap.size w3 ((w3.alloc (.cells #[ptr w1.heap.size, ptr w2.heap.size] 37)).alloc (.cells #[.slice none 0 0, .slice none 0 0] 38)) := ((Below.refl _ _).alloc (Nat.le_refl _) _).alloc (by simp) _
    refine ⟨hB3.trans (hbb.mono (by omega)), by omega, by omega, a1.alloc _, a2, ?_, ?_, ?_, fun k _ => Bytes.nil _ _, own_nil _ _ _ _, fun v hv => by simp at hv, fun j k v u _ hj => by simp at hj, fun b hb => hb⟩
    · intro k _; show _ ≤ if k = 0 then _ else _; split <;> omega
    · intro j k hj hk hjk
      show (if j = 0 then w1.heap.size else w2.heap.size) ≠ (if k = 0 then w1.heap.size else w2.heap.size)
      split <;> split <;> omega
    · intro k _
      show HashBy _ _ (if k = 0 then _ else _) []
      split
      · exact HashBy.none ((hh1.below hb3).below hbb)
      · exact HashBy.none (hh2.below hbb)
  obtain ⟨P0, hP0⟩ : ∃ P0 : Nat → Nat, P0 = fun k => if k = 0 then w1.heap.size else w2.heap.size := ⟨_, rfl⟩
  rw [← hP0] at hI
  clear hP0 hT1 hT2 hh1 hh2 hb1 hb2 hb3
  have hIh := Lib.hid hI
  clear hI
  obtain ⟨N, hN⟩ : ∃ N, N = ops.length := ⟨_, rfl⟩
  rw [← hN] at hn ⊢
  have hN' := Lib.hid hN
  clear hN
  go_wp2_with fail
  generalize w3.heap.size = bh at hIh ⊢
  go_loopg [6, 7, 8, 9, 10, 11, 12, 13] N (fun k s6 s7 s8 s9 s10 s11 s12 s13 wr => ∃ (i : Nat) (P : Nat → Nat) (L : Nat → List UInt8) (V : Nat → Value) (T : List Value), i + k = N ∧ s7 = .int .i64 (i : Int) ∧ T.length ≤ i ∧ (∀ q, q < 2 → (L q).length ≤ tot ops i) ∧ Hid (St (Off bh (bh + 1) s6 T) w wr bh (bh + 1) P L L V s6 T))
  case atStart =>
    refine ⟨0, P0, fun _ => [], fun _ => .slice none 0 0, [], by omega, rfl, by simp, by simp, hIh⟩
  case round =>
    obtain ⟨i, P, L, V, T, hik, rfl, hTl, hLl, hS⟩ := hrel
    by_cases hi : i < N
    · obtain ⟨o, ho⟩ : ∃ o, ops[i]? = some o := ⟨ops[i]'(by have := hN'.out; omega), List.getElem?_eq_getElem _⟩
      obtain ⟨ad, e, c0, c1, c2, _⟩ := hr.below hS.out.below i o ho
      have hro : ReadsOf eb 0 w o.A o.b.length o.b := by obtain ⟨_, _, _, _, _, h⟩ := hr i o ho; exact h
      subst e
      rw [← addr_add, addr_pos _ 1 (by omega)] at c1
      rw [← addr_add, addr_pos _ 2 (by omega)] at c2
      have hst := tot_step ops i o ho
      have htl := tot_le ops (i + 1)
      obtain ⟨oon, act, oA, oc, ob⟩ := o
      dsimp only at c0 c1 c2 hro hst
      go_upto_region 12 with fail
      have hat : ∃ a : Nat, bits .and .i64 oon 1 = (a : Int) ∧ a < 2 := ⟨(oon % 2).toNat, by rw [i64_and1]; omega, by omega⟩
      obtain ⟨a, hae, ha⟩ := hat
      rw [hae]
      have hbq : Below wr.heap.size wr (wr.alloc (.cells #[.int .i64 oon, .int .i64 act, .slice oA ob.length oc] 40)) := (Below.refl _ _).alloc (Nat.le_refl _) _
      have hq := Arr.new wr 40 [.int .i64 oon, .int .i64 act, .slice oA ob.length oc]
      have hS1 := Lib.hid (hS.out.on hbq)
      have hrw := Lib.hid hro
      clear hS c0 c1 c2 hae hbq hro ho
      replace hq : Arr (wr.alloc (.cells #[.int .i64 oon, .int .i64 act, .slice oA ob.length oc] 40)) wr.heap.size 40 [.int .i64 oon, .int .i64 act, .slice oA ob.length oc] := hq
      generalize (wr.alloc (.cells #[.int .i64 oon, .int .i64 act, .slice oA ob.length oc] 40)) = W1 at hq hS1 ⊢
      generalize wr.heap.size = q at hq ⊢
      have q1 : W1.cell? ⟨q, 1, none⟩ = some (.int .i64 act) := hq.cell 1
      go_upto_block 2 with fail
      go_cut [6, 10, 11, 12, 13] from 31 to 119 (fun s6 s10 s11 s12 s13 wx => ∃ (P : Nat → Nat) (L : Nat → List UInt8) (V : Nat → Value) (T : List Value), T.length ≤ i + 1 ∧ (∀ q, q < 2 → (L q).length ≤ tot ops (i + 1)) ∧ Hid (St (Off bh (bh + 1) s6 T) w wx bh (bh + 1) P L L V s6 T))
      case first =>
        have hT1 := Lib.hid (hT.below hS1.out.below)
        have hR1 := Lib.hid (hR.below hS1.out.below)
        have hLa := hLl a ha
        have hpc := (hS1.out.hs.cell a).trans (two_at (fun k => ptr (P k)) ha)
        have hvc := (hS1.out.all.cell a).trans (two_at V ha)
        by_cases h0 : act = 0
        · subst h0
          have q2 : W1.cell? ⟨q, 2, none⟩ = some (.slice oA ob.length oc) := hq.cell 2
          have hob : ob.length ≤ 1048576 := by omega
          have hfg := Lib.hid (hS1.out.fresh (Nat.le_refl W1.heap.size))
          have hpg : Hid (∀ k, k < 2 → P k ≠ W1.heap.size) := fun k hk => by obtain ⟨C, fr, hC⟩ := hS1.out.hcell k hk; exact Nat.ne_of_lt (Array.getElem?_eq_some_iff.1 hC).1
          have hgw : Hid (w.heap.size ≤ W1.heap.size) := hS1.out.below.size
          have hqg : q ≠ W1.heap.size := Nat.ne_of_lt hq.lt
          go_wp2_with fail
          refine (Lent.lent_any oA oc ob W1 (hrw.out.below hS1.out.below) (by omega)).mono ?_
          rintro e w4 ⟨rfl, hg4, hb4⟩
          have hS4 : Hid (St (fun b => Off bh (bh + 1) u6 T b ∧ b ≠ W1.heap.size) w w4 bh (bh + 1) P L L V u6 T) := (hS1.out.mono (fun b hb hF => ⟨hF, Nat.ne_of_lt hb⟩) (fun b hb => hb.1)).on hb4
          have hT4 := Lib.hid (hT.below hS4.out.below)
          have hgl : Hid (W1.heap.size < w4.heap.size) := hg4.lt
          have hq4 := hq.below hb4
          have hrg := Lib.hid (Sums.reads_marked hg4 (by omega))
          have hpc4 := (hS4.out.hs.cell a).trans (two_at (fun k => ptr (P k)) ha)
          have hg4' := Lib.hid hg4
          clear hS1 hq hpc hvc q1 q2 hb4 hg4 hT1 hR1
          go_wp2_with fail
          refine (Far.write_any (P a) (L a) (some ⟨W1.heap.size, 0, none⟩) ob.length (ob.length + 3) ob w4 hT4.out (hS4.out.hash a ha).at hrg.out (by omega) (by omega)).mono ?_
          rintro e w5 ⟨rfl, hh5, hb5⟩
          have hS5 := Lib.hid (hS4.out.wrote ha hb5 (hh5.mono fun b _ hb => ⟨hS4.out.fresh hb, Nat.ne_of_gt (Nat.lt_of_lt_of_le hgl.out hb)⟩))
          have hg5 := Lib.hid (show Arr w5 W1.heap.size 5 _ from (hb5.block _ hg4'.out.lt (Ne.symm (hpg.out a ha))).trans hg4'.out)
          have hq5 : Arr w5 q 40 _ := (hb5.block q hq4.lt (by obtain ⟨C, fr, hC⟩ := hS4.out.hcell a ha; exact ty_ne hq4 hC (by decide))).trans hq4
          have q52 : w5.cell? ⟨q, 2, none⟩ = some (.slice oA ob.length oc) := hq5.cell 2
          clear hS4 hq4 hrg hpc4 hg4' hh5 hb5 hT4
          go_wp2_with fail
          refine (Lent.back_any W1.heap.size oA oc ob w5 hg5.out (hrw.out.below hS5.out.below) (fun a e h0 => Nat.ne_of_lt (Nat.lt_of_lt_of_le (Str.reads_lt hrw.out h0 a e) hgw.out)) (by omega)).mono ?_
          rintro e w6 ⟨rfl, hb6⟩
          have hS6 : Hid (St (Off bh (bh + 1) u6 T) w w6 bh (bh + 1) P (upd L a (L a ++ ob)) L V u6 T) := (hS5.out.stay (Stay.of_but hb6) (by rintro _ rfl; exact ⟨hgw.out, Ne.symm (Ne.symm hfg.out.1), hfg.out.2.1, hpg.out, fun h => h.2 rfl, hfg.out.2.2.1, hfg.out.2.2.2⟩)).mono (fun b _ hb => hb.1) (fun b hb => hb)
          have hq6 : Arr w6 q 40 _ := (hb6.block q hq5.lt hqg).trans hq5
          obtain ⟨A1, c1, hV1, hr1, _⟩ := hS6.out.bytes a ha
          have hvc6 := (hS6.out.all.cell a).trans (two_at V ha)
          rw [hV1] at hvc6
          have hro6 := Lib.hid (hrw.out.below hS6.out.below)
          have hr1h := Lib.hid hr1
          have hall6 := Lib.hid hS6.out.all
          clear hS5 hg5 hq5 q52 hb6 hV1 hr1 hfg hpg hgw hqg hgl
          go_wp2_with (first | (at_builtin; (with_reducible refine print_append_row_of (w0 := w6) (o := ⟨some 64, _, _, _, _, _⟩) eb 0 w6.heap.size ?q1x0 (.tmp 60) (.tmp 63) 22 5 (.int .u8 0) 1 ?q1x1 Tryd.underlying22 info5 ?q1x2 ?q1x3 ?q1x4 (.slice none 0 0) [] (L a) A1 (L a).length c1 ?q1x5 ?q1x6 (own_nil _ _ _ _) hr1h.out (Below.refl _ _) ?q1x7 ?q1x8 ?q1x9); (case q1x0 => rfl); (case q1x1 => rfl); (case q1x2 => rfl); (case q1x3 => omega); (case q1x4 => exact fun _ => rfl); (case q1x5 => rfl); (case q1x6 => rfl); (case q1x7 => exact Nat.le_refl _); (case q1x8 => simp; omega); intro v7 w7 hown hbel _ _; simp only [List.nil_append] at hown; have q72 : w7.cell? ⟨q, 2, none⟩ = some (.slice oA ob.length oc) := (hq6.below hbel).cell 2; have hvc7 := hvc6; clear hvc6) | (at_builtin; (with_reducible refine print_append_row_of (w0 := w6) (o := ⟨some 69, _, _, _, _, _⟩) eb 0 w6.heap.size ?q2x0 (.tmp 66) (.tmp 68) 22 5 (.int .u8 0) 1 ?q2x1 Tryd.underlying22 info5 ?q2x2 ?q2x3 ?q2x4 v7 (L a) ob oA ob.length oc ?q2x5 ?q2x6 hown (hro6.out.below hbel) hbel ?q2x7 ?q2x8 ?q2x9); (case q2x0 => rfl); (case q2x1 => rfl); (case q2x2 => rfl); (case q2x3 => omega); (case q2x4 => exact fun _ => rfl); (case q2x5 => rfl); (case q2x6 => rfl); (case q2x7 => exact hbel.size); (case q2x8 => omega); intro v8 w8 hown8 hbel8 _ _; have hvc8 := ((hall6.out.below hbel8).cell a).trans (two_at V ha); have hvf8 := (hall6.out.below hbel8).free a; obtain ⟨A8, c8, rfl⟩ := own_slice hown8; have hown8' := Lib.hid hown8; clear hown8))
          go_meet
          case rel =>
            have hS8 := hS6.out.on hbel8
            rw [← List.length_append]
            refine ⟨P, upd L a (L a ++ ob), upd V a (.slice A8 (L a ++ ob).length c8), T, by omega, ?_, hS8.laid ha (Bytes.own hown8'.out fun g hg => hS6.out.fresh hg)⟩
            intro q hq
            unfold upd
            split
            · rw [List.length_append]; omega
            · have := hLl q hq; omega
        · by_cases h1 : act = 1
          · subst h1
            obtain ⟨A1, c1, hV1, _, _⟩ := hS1.out.bytes a ha
            go_wp2_with fail
            refine (HSum.sum_any (P a) (L a) W1 hT1.out (hS1.out.hash a ha).at (by omega)).mono ?_
            rintro e w4 ⟨v, rfl, hown, hb4⟩
            obtain ⟨D, hD⟩ : ∃ D, D = Sha.sha (L a) := ⟨_, rfl⟩
            have hDl : D.length = 32 := by rw [hD]; exact Sha.sha_length _
            rw [← hD] at hown
            have hS4 : Hid (St (fun b => Off bh (bh + 1) u6 T b ∧ b < W1.heap.size) w w4.drew bh (bh + 1) P L L V u6 T) := ((hS1.out.mono (fun b hb hF => ⟨hF, hb⟩) (fun b hb => hb.1)).on hb4).on (Below.refl _ _).drew
            have hxT : Hid (∀ u ∈ T, NeRow u v) := fun u hu k e e2 => by
              have h1 := (hS1.out.rcell hu e).2.1
              have h2 := (Owned.Own.block (l := D) hown e2).1
              omega
            have hxF : Hid (∀ b, (Off bh (bh + 1) u6 T b ∧ b < W1.heap.size) → v.ownBlock ≠ some b) := fun b hb e => by
              have h2 := (Owned.Own.block (l := D) hown e).1
              omega
            have hx4 : Hid (Owned.Own w.heap.size w4.drew v D) := Owned.Own.kept (own_weaken hown hS1.out.below.size) (row := none) ⟨rfl, rfl, rfl, Nat.le_refl _, fun _ _ _ => rfl⟩ (fun g e => by cases e)
            obtain ⟨Ax, cx, rfl, _, hrx⟩ := own_reads_of_le (d := (0 : UInt8)) hown
            rw [hDl] at hrx hxT hxF hx4 ⊢
            replace hrx := hrx.below (Below.refl _ _).drew
            have hR4 := Lib.hid (hR.below hS4.out.below)
            have hvc4 := (hS4.out.all.cell a).trans (two_at V ha)
            rw [hV1] at hvc4
            have hr4 : Hid (ReadsOf eb 0 w4.drew A1 (L a).length (L a)) := by
              obtain ⟨A9, c9, e9, h9, _⟩ := hS4.out.bytes a ha
              rw [hV1] at e9
              cases e9
              exact h9
            have hD' := Lib.hid hD.symm
            have hDl' := Lib.hid hDl
            clear hown hb4 hD hDl hS1 hpc hvc q1 hq hT1 hR1
            have hai : (a : Int) < 2 := by omega
            go_upto_region 24 with fail
            refine wp_region_held_drew (S := (fun w' => (convert 22 9 (.slice Ax 32 cx)).run Tryd.prog w' = .ok (.string (str D)) w' ∧ w'.cell? ⟨bh + 1, a, none⟩ = some (.slice A1 (L a).length c1))) (by kernel_rfl) ?_ (fun hHeld => ?_)
            · exact ⟨string_of hrx, hvc4⟩
            refine wpAnyH_take (i := 0) (oi := ⟨some 79, _, _, _, _, _⟩) (v := ?v1) rfl (by kernel_rfl) (by kernel_rfl) (by kernel_rfl) (fun _ _ _ h => h) (Or.inl ⟨by rfl, ?y1⟩) (by assumption) ?r1
            case y1 => (intro w hSw; (try dsimp only at hSw); first | (go_simp; done) | (go_simp; with_reducible rfl))
            case' r1 => (simp only [Act.put, List.setIfInBounds_toArray, List.set_cons_zero, List.set_cons_succ])
            refine wpAnyH_take (i := 1) (oi := ⟨some 80, _, _, _, _, _⟩) (v := ?v2) rfl (by kernel_rfl) (by kernel_rfl) (by kernel_rfl) (fun _ _ _ h => h) (Or.inl ⟨by rfl, ?y2⟩) (by assumption) ?r2
            case y2 => (intro w hSw; (try dsimp only at hSw); first | (go_simp; done) | (go_simp; with_reducible rfl))
            case' r2 => (simp only [Act.put, List.setIfInBounds_toArray, List.set_cons_zero, List.set_cons_succ])
            refine wpAnyH_take (i := 2) (oi := ⟨some 81, _, _, _, _, _⟩) (v := ?v3) rfl (by kernel_rfl) (by kernel_rfl) (by kernel_rfl) (fun _ _ _ h => h) (Or.inl ⟨by rfl, ?y3⟩) (by assumption) ?r3
            case y3 => (intro w hSw; (try dsimp only at hSw); first | (go_simp; done) | (go_simp; with_reducible rfl))
            case' r3 => (simp only [Act.put, List.setIfInBounds_toArray, List.set_cons_zero, List.set_cons_succ])
            refine wpAnyH_take (i := 3) (oi := ⟨some 82, _, _, _, _, _⟩) (v := ?v4) rfl (by kernel_rfl) (by kernel_rfl) (by kernel_rfl) (fun _ _ _ h => h) (Or.inl ⟨by rfl, ?y4⟩) (by assumption) ?r4
            case y4 => (intro w hSw; (try dsimp only at hSw); first | (go_simp; done) | (go_simp; with_reducible rfl))
            case' r4 => (simp only [Act.put, List.setIfInBounds_toArray, List.set_cons_zero, List.set_cons_succ])
            refine wpAnyH_take (i := 4) (oi := ⟨some 83, _, _, _, _, _⟩) (v := ?v5) rfl (by kernel_rfl) (by kernel_rfl) (by kernel_rfl) (fun _ _ _ h => h) (Or.inl ⟨by rfl, ?y5⟩) (by assumption) ?r5
            case y5 => (intro w hSw; (try dsimp only at hSw); first | (go_simp; done) | (go_simp; with_reducible rfl))
            case' r5 => (simp only [Act.put, List.setIfInBounds_toArray, List.set_cons_zero, List.set_cons_succ])
            refine wpAnyH_ready (rs := [5]) (by kernel_rfl) (by simp) ?_
            refine AllReadyH.cons (o := ⟨some 84, _, _, _, _, _⟩) rfl (fun K hK => ?_) AllReadyH.nil
            go_simp
            go_at_call 17; refine (RefSum.sum_any A1 (L a).length c1 (L a) w4.drew hR4.out hr4.out (by omega)).mono ?_; rintro e w5 ⟨v5, rfl, hown5, hb5⟩; rw [hD'.out, hDl'.out] at hown5; have hS5 := Lib.hid (hS4.out.on hb5); have hx5 : Hid (Owned.Own w.heap.size w5 (.slice Ax 32 cx) D) := own_stay (Stay.of_below hb5) hx4.out (fun _ _ h => h.elim); have hrx5 := Lib.hid (hrx.below hb5); have hvc5 := (hS5.out.all.cell a).trans (two_at V ha); rw [hV1] at hvc5; obtain ⟨A5, c5, rfl, _, hrd5⟩ := own_reads_of_le (d := (0 : UInt8)) hown5; have hs5 := string_of (c := c5) hrd5; clear hown5 hb5 hrd5; go_wp2_with fail
            refine hK.out _ _ ?_ (fun hHeld => ?_)
            · exact ⟨string_of hrx5.out, hvc5⟩
            clear hK K
            try simp only [Act.put, List.setIfInBounds_toArray, List.set_cons_zero, List.set_cons_succ]
            refine wpAnyH_ready (rs := [6]) (by kernel_rfl) (by simp) ?_
            refine AllReadyH.cons (o := ⟨some 85, _, _, _, _, _⟩) rfl (fun K hK => ?_) AllReadyH.nil
            go_simp
            refine hK.out _ _ ?_ (fun hHeld => ?_)
            · exact ⟨string_of hrx5.out, hvc5⟩
            clear hK K
            try simp only [Act.put, List.setIfInBounds_toArray, List.set_cons_zero, List.set_cons_succ]
            clear hs5
            refine wpAnyH_take (i := 7) (oi := ⟨some 86, _, _, _, _, _⟩) (v := ?v6) rfl (by kernel_rfl) (by kernel_rfl) (by kernel_rfl) (fun _ _ _ h => h) (Or.inl ⟨by rfl, ?y6⟩) (by assumption) ?r6
            case y6 => (intro w hSw; (try dsimp only at hSw); first | (go_simp; done) | (go_simp; with_reducible rfl))
            case' r6 => (simp only [Act.put, List.setIfInBounds_toArray, List.set_cons_zero, List.set_cons_succ])
            refine wpAnyH_done (by kernel_rfl) ?_ _
            have hHO : Hid (w5.ownsRow w.heap.size 22 1 u6 T.length T) := hS5.out.long
            have hbx := hS5.out.below.size
            clear hrx hvc4 hvc5 hr4 hS4 hx4 hV1
            go_wp2_with (at_builtin; (with_reducible refine Keep.append_keep (o := ⟨some 90, _, _, _, _, _⟩) (w.heap.size) ?kb0 (.tmp 87) (.tmp 89) 27 22 (.slice none 0 0) 24 ?kb1 Tryd.underlying27 Owned.info22 ?kb2 ?kb3 (u6) (T.length) T ([.slice Ax 32 cx]) 1 ?kb4 ?kb5 ?kb6 ?kb7 ?kb8 ?kb9 ?kb10 ?kb11 ?kb12); (case kb0 => rfl); (case kb1 => rfl); (case kb2 => rfl); (case kb3 => omega); (case kb4 => rfl); (case kb5 => omega); (case kb6 => rfl); (case kb7 => rfl); (case kb8 => (simp; rfl)); (case kb9 => exact hHO.out); (case kb10 => exact hbx); (case kb11 => omega); intro v1 w6 ho hk)
            have hS6 := Lib.hid (hS5.out.told hxF.out hxT.out hDl'.out hx5.out rfl ho hk)
            clear ho hk
            go_wp2_with fail
            go_meet
            case rel => exact ⟨P, L, V, T ++ [.slice Ax 32 cx], by simp; omega, fun q hq => by have := hLl q hq; omega, hS6⟩
          · by_cases h2 : act = 2
            · subst h2
              obtain ⟨A3, c3, hV3, _, _⟩ := hS1.out.bytes a ha
              have ha01 : a = 0 ∨ a = 1 := by omega
              rcases ha01 with rfl | rfl
              · have z0 : ((0 : Nat) : Int) = 0 := rfl
                rw [z0]
                have hhb := Lib.hid ((hS1.out.hash 0 ha).at)
                go_wp2_with fail
                refine (Far.clone_any (P 0) (L 0) W1 hhb.out).mono ?_
                rintro e w4 ⟨rfl, hh4, hb4⟩
                have hS4 := hS1.out.on hb4
                have h1a : 1 < 2 := by omega
                have hn4 : ∀ k, k < 2 → P k ≠ W1.heap.size := fun k hk => by obtain ⟨C, fr, hC⟩ := hS1.out.hcell k hk; exact Nat.ne_of_lt (Array.getElem?_eq_some_iff.1 hC).1
                have hS5 := hS4.cloned h1a (hh4.mono fun b _ hb => hS1.out.fresh hb) hS1.out.below.size hn4
                have hS6 := hS5.laid h1a (hS5.bytes 0 ha)
                rw [hV3] at hS6
                have x1 := (hS4.hs.cell 1).trans (two_at (fun k => ptr (P k)) h1a)
                have x2 := hS4.hs.free 1
                have x3 := (hS5.all.cell 0).trans (two_at V ha)
                rw [hV3] at x3
                have x4 := (hS5.all.cell 1).trans (two_at V h1a)
                have x5 := hS5.all.free 1
                have x6 := (hS6.hs.cell 1).trans (two_at (fun k => ptr (upd P 1 W1.heap.size k)) h1a)
                rw [upd_at] at x6
                unfold ptr at x1 x3 x4 x5 x6
                have x7 : Hid (∀ q, q < 2 → (upd L 1 (L 0) q).length ≤ tot ops (i + 1)) := by
                  intro q hq
                  unfold upd
                  split
                  · omega
                  · have := hLl q hq; omega
                have hS6' := Lib.hid hS6
                clear hS1 hS4 hS5 hS6 hq hpc hvc q1 hh4 hb4 hT1 hR1 hn4 hhb hLl hLa hV3
                go_wp2_with fail
                go_meet
                case rel => exact ⟨_, _, _, T, by omega, x7.out, hS6'⟩
              · have z0 : ((1 : Nat) : Int) = 1 := rfl
                rw [z0]
                have hhb := Lib.hid ((hS1.out.hash 1 ha).at)
                go_wp2_with fail
                refine (Far.clone_any (P 1) (L 1) W1 hhb.out).mono ?_
                rintro e w4 ⟨rfl, hh4, hb4⟩
                have hS4 := hS1.out.on hb4
                have h1a : 0 < 2 := by omega
                have hn4 : ∀ k, k < 2 → P k ≠ W1.heap.size := fun k hk => by obtain ⟨C, fr, hC⟩ := hS1.out.hcell k hk; exact Nat.ne_of_lt (Array.getElem?_eq_some_iff.1 hC).1
                have hS5 := hS4.cloned h1a (hh4.mono fun b _ hb => hS1.out.fresh hb) hS1.out.below.size hn4
                have hS6 := hS5.laid h1a (hS5.bytes 1 ha)
                rw [hV3] at hS6
                have x1 := (hS4.hs.cell 0).trans (two_at (fun k => ptr (P k)) h1a)
                have x2 := hS4.hs.free 0
                have x3 := (hS5.all.cell 1).trans (two_at V ha)
                rw [hV3] at x3
                have x4 := (hS5.all.cell 0).trans (two_at V h1a)
                have x5 := hS5.all.free 0
                have x6 := (hS6.hs.cell 0).trans (two_at (fun k => ptr (upd P 0 W1.heap.size k)) h1a)
                rw [upd_at] at x6
                unfold ptr at x1 x3 x4 x5 x6
                have x7 : Hid (∀ q, q < 2 → (upd L 0 (L 1) q).length ≤ tot ops (i + 1)) := by
                  intro q hq
                  unfold upd
                  split
                  · omega
                  · have := hLl q hq; omega
                have hS6' := Lib.hid hS6
                clear hS1 hS4 hS5 hS6 hq hpc hvc q1 hh4 hb4 hT1 hR1 hn4 hhb hLl hLa hV3
                go_wp2_with fail
                go_meet
                case rel => exact ⟨_, _, _, T, by omega, x7.out, hS6'⟩
            · have f0 : (act == 0) = false := by simp [h0]
              have f1 : (act == 1) = false := by simp [h1]
              have f2 : (act == 2) = false := by simp [h2]
              go_wp2_with fail
              go_meet
              case rel => exact ⟨P, L, V, T, by omega, fun q hq => by have := hLl q hq; omega, hS1⟩
      case rest =>
        obtain ⟨P, L, V, T, hTl, hLl, hS⟩ := hcut
        obtain ⟨A1, c1, hV1, _, _⟩ := hS.out.bytes a ha
        have hpc := (hS.out.hs.cell a).trans (two_at (fun k => ptr (P k)) ha)
        have hvc := (hS.out.all.cell a).trans (two_at V ha)
        rw [hV1] at hvc
        have hha := (hS.out.hash a ha).at
        have hlen : ∀ n : Nat, Calls Tryd.prog 22 #[.pointer (some ⟨P a, 0, none⟩)] (wc.drewN n) fun e w' => e = .returned (.int .i64 ((L a).length : Int)) ∧ w' = wc.drewN n := fun n => (len_any (P a) (L a) (wc.drewN n) (hha.below (below_drewN (Below.refl _ _) n))).mono fun e w' h => ⟨h.1, h.2.symm⟩
        clear hS1 hq q1 hV1 hha
        go_upto_region 32 with fail
        have hai : (a : Int) < 2 := by omega
        have ha0 : 0 ≤ (a : Int) := by omega
        go_quiet (exact Calls.quiet_of_same (hlen _))
        go_wp2_with fail
        go_roundg (gk - 1)
        case measure => omega
        case rel => exact ⟨i + 1, P, L, V, T, by omega, by simp, hTl, hLl, hS.out.on (below_drewN (Below.refl _ _) nq)⟩
    · go_wp2_with fail
      refine (St.owned hS.out (by omega)).mono ?_
      rintro e W1 ⟨rfl, hF1⟩
      obtain ⟨A0, c0, hV0, hb0⟩ := hF1.bytes 0 (by omega)
      obtain ⟨A1, c1, hV1, hb1⟩ := hF1.bytes 1 (by omega)
      have hF : Hid (Fin w W1.drew bh (bh + 1) P L V) := hF1.on (Below.refl _ _).drew
      have hcells : ∀ W, Fin w W bh (bh + 1) P L V → (W.cell? ⟨bh, 0, none⟩ = some (.pointer (some ⟨P 0, 0, none⟩)) ∧ W.cell? ⟨bh, 1, none⟩ = some (.pointer (some ⟨P 1, 0, none⟩)) ∧ W.cell? ⟨bh + 1, 0, none⟩ = some (.slice A0 (L 0).length c0) ∧ W.cell? ⟨bh + 1, 1, none⟩ = some (.slice A1 (L 1).length c1)) := fun W h => by
        refine ⟨h.hs.cell 0, h.hs.cell 1, ?_, ?_⟩
        · rw [← hV0]; exact h.all.cell 0
        · rw [← hV1]; exact h.all.cell 1
      have hby0 : Hid (∀ W, Fin w W bh (bh + 1) P L V → ReadsOf eb 0 W A0 (L 0).length (L 0)) := fun W h => by
        obtain ⟨A, c, e, h2⟩ := h.bytes 0 (by omega)
        rw [hV0] at e; cases e; exact h2
      have hby1 : Hid (∀ W, Fin w W bh (bh + 1) P L V → ReadsOf eb 0 W A1 (L 1).length (L 1)) := fun W h => by
        obtain ⟨A, c, e, h2⟩ := h.bytes 1 (by omega)
        rw [hV1] at e; cases e; exact h2
      have htl := tot_le ops i
      have hm0 : Hid ((L 0).length ≤ 1125899906842624) := by have := hLl 0 (by omega); show _ ≤ _; omega
      have hm1 : Hid ((L 1).length ≤ 1125899906842624) := by have := hLl 1 (by omega); show _ ≤ _; omega
      have hn0 : Hid ((L 0).length ≤ 140737488353000) := by have := hLl 0 (by omega); show _ ≤ _; omega
      have hn1 : Hid ((L 1).length ≤ 140737488353000) := by have := hLl 1 (by omega); show _ ≤ _; omega
      obtain ⟨D0, hd0⟩ : ∃ D, D = Sha.sha (L 0) := ⟨_, rfl⟩
      obtain ⟨D1, hd1⟩ : ∃ D, D = Sha.sha (L 1) := ⟨_, rfl⟩
      have hE0 : Hid (D0.length = 32) := by rw [hd0]; exact Sha.sha_length _
      have hE1 : Hid (D1.length = 32) := by rw [hd1]; exact Sha.sha_length _
      have hD0 := Lib.hid hd0.symm
      have hD1 := Lib.hid hd1.symm
      clear hF1 hV0 hV1 hb0 hb1 hd0 hd1 hS hLl htl
      go_upto_region 35 with fail
      refine wp_region_held_drew (S := (fun w' => w'.cell? ⟨bh, 0, none⟩ = some (.pointer (some ⟨P 0, 0, none⟩)) ∧ w'.cell? ⟨bh, 1, none⟩ = some (.pointer (some ⟨P 1, 0, none⟩)) ∧ w'.cell? ⟨bh + 1, 0, none⟩ = some (.slice A0 (L 0).length c0) ∧ w'.cell? ⟨bh + 1, 1, none⟩ = some (.slice A1 (L 1).length c1))) (by kernel_rfl) ?_ (fun hHeld => ?_)
      · exact hcells _ (hF.out)
      generalize W1.drew = W at hF hHeld ⊢
      refine wpAnyH_take (i := 0) (oi := ⟨some 122, _, _, _, _, _⟩) (v := ?v51) rfl (by kernel_rfl) (by kernel_rfl) (by kernel_rfl) (fun _ _ _ h => h) (Or.inl ⟨by rfl, ?y51⟩) (by assumption) ?r51
      case y51 => (intro w hSw; (try dsimp only at hSw); first | (go_simp; done) | (go_simp; with_reducible rfl))
      case' r51 => (simp only [Act.put, List.setIfInBounds_toArray, List.set_cons_zero, List.set_cons_succ])
      refine wpAnyH_take (i := 1) (oi := ⟨some 123, _, _, _, _, _⟩) (v := ?v52) rfl (by kernel_rfl) (by kernel_rfl) (by kernel_rfl) (fun _ _ _ h => h) (Or.inl ⟨by rfl, ?y52⟩) (by assumption) ?r52
      case y52 => (intro w hSw; (try dsimp only at hSw); first | (go_simp; done) | (go_simp; with_reducible rfl))
      case' r52 => (simp only [Act.put, List.setIfInBounds_toArray, List.set_cons_zero, List.set_cons_succ])
      refine wpAnyH_take (i := 2) (oi := ⟨some 124, _, _, _, _, _⟩) (v := ?v53) rfl (by kernel_rfl) (by kernel_rfl) (by kernel_rfl) (fun _ _ _ h => h) (Or.inl ⟨by rfl, ?y53⟩) (by assumption) ?r53
      case y53 => (intro w hSw; (try dsimp only at hSw); first | (go_simp; done) | (go_simp; with_reducible rfl))
      case' r53 => (simp only [Act.put, List.setIfInBounds_toArray, List.set_cons_zero, List.set_cons_succ])
      refine wpAnyH_take (i := 3) (oi := ⟨some 125, _, _, _, _, _⟩) (v := ?v54) rfl (by kernel_rfl) (by kernel_rfl) (by kernel_rfl) (fun _ _ _ h => h) (Or.inl ⟨by rfl, ?y54⟩) (by assumption) ?r54
      case y54 => (intro w hSw; (try dsimp only at hSw); first | (go_simp; done) | (go_simp; with_reducible rfl))
      case' r54 => (simp only [Act.put, List.setIfInBounds_toArray, List.set_cons_zero, List.set_cons_succ])
      refine wpAnyH_take (i := 6) (oi := ⟨some 128, _, _, _, _, _⟩) (v := ?v55) rfl (by kernel_rfl) (by kernel_rfl) (by kernel_rfl) (fun _ _ _ h => h) (Or.inl ⟨by rfl, ?y55⟩) (by assumption) ?r55
      case y55 => (intro w hSw; (try dsimp only at hSw); first | (go_simp; done) | (go_simp; with_reducible rfl))
      case' r55 => (simp only [Act.put, List.setIfInBounds_toArray, List.set_cons_zero, List.set_cons_succ])
      refine wpAnyH_take (i := 7) (oi := ⟨some 129, _, _, _, _, _⟩) (v := ?v56) rfl (by kernel_rfl) (by kernel_rfl) (by kernel_rfl) (fun _ _ _ h => h) (Or.inl ⟨by rfl, ?y56⟩) (by assumption) ?r56
      case y56 => (intro w hSw; (try dsimp only at hSw); first | (go_simp; done) | (go_simp; with_reducible rfl))
      case' r56 => (simp only [Act.put, List.setIfInBounds_toArray, List.set_cons_zero, List.set_cons_succ])
      refine wpAnyH_ready (rs := [4]) (by kernel_rfl) (by simp) ?_
      refine AllReadyH.cons (o := ⟨some 126, _, _, _, _, _⟩) rfl (fun K hK => ?_) AllReadyH.nil
      go_simp
      go_at_call 21; refine (HSum.sum_any (P 0) (L 0) W (hT.below hF.out.below) (hF.out.hash 0 (by omega)) hm0.out).mono ?_; rintro e Wa ⟨va, rfl, howna, hba⟩; rw [hD0.out, hE0.out] at howna; have hFa := Lib.hid (hF.out.on hba); obtain ⟨Xa, xa, rfl, _, hqa⟩ := own_reads_of_le (d := (0 : UInt8)) howna; have hsa := string_of (c := xa) hqa; have hra := Lib.hid hqa; clear howna hba hqa hF; go_wp2_with fail
      refine hK.out _ _ ?_ (fun hHeld => ?_)
      · exact hcells _ hFa.out
      clear hK K
      try simp only [Act.put, List.setIfInBounds_toArray, List.set_cons_zero, List.set_cons_succ]
      refine wpAnyH_sharp (S2 := (fun w' => ((w'.cell? ⟨bh, 0, none⟩ = some (.pointer (some ⟨P 0, 0, none⟩)) ∧ w'.cell? ⟨bh, 1, none⟩ = some (.pointer (some ⟨P 1, 0, none⟩)) ∧ w'.cell? ⟨bh + 1, 0, none⟩ = some (.slice A0 (L 0).length c0) ∧ w'.cell? ⟨bh + 1, 1, none⟩ = some (.slice A1 (L 1).length c1)) ∧ (convert 22 9 (.slice Xa 32 xa)).run Tryd.prog w' = .ok (.string (str D0)) w'))) (fun w h => h.1) _ _ _ _ ?_
      have hHeld2 := And.intro hHeld hsa
      clear hHeld
      have hHeld := hHeld2
      clear hHeld2
      refine wpAnyH_take (i := 5) (oi := ⟨some 127, _, _, _, _, _⟩) (v := ?v57) rfl (by kernel_rfl) (by kernel_rfl) (by kernel_rfl) (fun _ _ _ h => h) (Or.inl ⟨by rfl, ?y57⟩) (by assumption) ?r57
      case y57 => (intro w hSw; (try dsimp only at hSw); first | (go_simp; done) | (go_simp; with_reducible rfl))
      case' r57 => (simp only [Act.put, List.setIfInBounds_toArray, List.set_cons_zero, List.set_cons_succ])
      refine wpAnyH_ready (rs := [8]) (by kernel_rfl) (by simp) ?_
      refine AllReadyH.cons (o := ⟨some 130, _, _, _, _, _⟩) rfl (fun K hK => ?_) AllReadyH.nil
      go_simp
      go_at_call 17; refine (RefSum.sum_any A0 (L 0).length c0 (L 0) Wa (hR.below hFa.out.below) (hby0.out _ hFa.out) hn0.out).mono ?_; rintro e Wb ⟨vb, rfl, hownb, hbb⟩; rw [hD0.out, hE0.out] at hownb; have hFb := Lib.hid (hFa.out.on hbb); have hra := Lib.hid (hra.out.below hbb); obtain ⟨Xb, xb, rfl, _, hqb⟩ := own_reads_of_le (d := (0 : UInt8)) hownb; have hsb := string_of (c := xb) hqb; have hrb := Lib.hid hqb; clear hownb hbb hqb hFa; go_wp2_with fail
      refine hK.out _ _ ?_ (fun hHeld => ?_)
      · exact ⟨hcells _ hFb.out, string_of (hra.out)⟩
      clear hK K
      try simp only [Act.put, List.setIfInBounds_toArray, List.set_cons_zero, List.set_cons_succ]
      refine wpAnyH_sharp (S2 := (fun w' => (((w'.cell? ⟨bh, 0, none⟩ = some (.pointer (some ⟨P 0, 0, none⟩)) ∧ w'.cell? ⟨bh, 1, none⟩ = some (.pointer (some ⟨P 1, 0, none⟩)) ∧ w'.cell? ⟨bh + 1, 0, none⟩ = some (.slice A0 (L 0).length c0) ∧ w'.cell? ⟨bh + 1, 1, none⟩ = some (.slice A1 (L 1).length c1)) ∧ (convert 22 9 (.slice Xa 32 xa)).run Tryd.prog w' = .ok (.string (str D0)) w') ∧ (convert 22 9 (.slice Xb 32 xb)).run Tryd.prog w' = .ok (.string (str D0)) w'))) (fun w h => h.1) _ _ _ _ ?_
      have hHeld2 := And.intro hHeld hsb
      clear hHeld
      have hHeld := hHeld2
      clear hHeld2
      refine wpAnyH_take (i := 9) (oi := ⟨some 131, _, _, _, _, _⟩) (v := ?v58) rfl (by kernel_rfl) (by kernel_rfl) (by kernel_rfl) (fun _ _ _ h => h) (Or.inl ⟨by rfl, ?y58⟩) (by assumption) ?r58
      case y58 => (intro w hSw; (try dsimp only at hSw); first | (go_simp; done) | (go_simp; with_reducible rfl))
      case' r58 => (simp only [Act.put, List.setIfInBounds_toArray, List.set_cons_zero, List.set_cons_succ])
      refine wpAnyH_take (i := 10) (oi := ⟨some 132, _, _, _, _, _⟩) (v := ?v59) rfl (by kernel_rfl) (by kernel_rfl) (by kernel_rfl) (fun _ _ _ h => h) (Or.inl ⟨by rfl, ?y59⟩) (by assumption) ?r59
      case y59 => (intro w hSw; (try dsimp only at hSw); first | (go_simp; done) | (go_simp; with_reducible rfl))
      case' r59 => (simp only [Act.put, List.setIfInBounds_toArray, List.set_cons_zero, List.set_cons_succ])
      refine wpAnyH_take (i := 11) (oi := ⟨some 133, _, _, _, _, _⟩) (v := ?v60) rfl (by kernel_rfl) (by kernel_rfl) (by kernel_rfl) (fun _ _ _ h => h) (Or.inl ⟨by rfl, ?y60⟩) (by assumption) ?r60
      case y60 => (intro w hSw; (try dsimp only at hSw); first | (go_simp; done) | (go_simp; with_reducible rfl))
      case' r60 => (simp only [Act.put, List.setIfInBounds_toArray, List.set_cons_zero, List.set_cons_succ])
      refine wpAnyH_take (i := 12) (oi := ⟨some 134, _, _, _, _, _⟩) (v := ?v61) rfl (by kernel_rfl) (by kernel_rfl) (by kernel_rfl) (fun _ _ _ h => h) (Or.inl ⟨by rfl, ?y61⟩) (by assumption) ?r61
      case y61 => (intro w hSw; (try dsimp only at hSw); first | (go_simp; done) | (go_simp; with_reducible rfl))
      case' r61 => (simp only [Act.put, List.setIfInBounds_toArray, List.set_cons_zero, List.set_cons_succ])
      refine wpAnyH_take (i := 13) (oi := ⟨some 135, _, _, _, _, _⟩) (v := ?v62) rfl (by kernel_rfl) (by kernel_rfl) (by kernel_rfl) (fun _ _ _ h => h) (Or.inl ⟨by rfl, ?y62⟩) (by assumption) ?r62
      case y62 => (intro w hSw; (try dsimp only at hSw); first | (go_simp; done) | (go_simp; with_reducible rfl))
      case' r62 => (simp only [Act.put, List.setIfInBounds_toArray, List.set_cons_zero, List.set_cons_succ])
      refine wpAnyH_take (i := 14) (oi := ⟨some 136, _, _, _, _, _⟩) (v := ?v63) rfl (by kernel_rfl) (by kernel_rfl) (by kernel_rfl) (fun _ _ _ h => h) (Or.inl ⟨by rfl, ?y63⟩) (by assumption) ?r63
      case y63 => (intro w hSw; (try dsimp only at hSw); first | (go_simp; done) | (go_simp; with_reducible rfl))
      case' r63 => (simp only [Act.put, List.setIfInBounds_toArray, List.set_cons_zero, List.set_cons_succ])
      refine wpAnyH_take (i := 17) (oi := ⟨some 139, _, _, _, _, _⟩) (v := ?v64) rfl (by kernel_rfl) (by kernel_rfl) (by kernel_rfl) (fun _ _ _ h => h) (Or.inl ⟨by rfl, ?y64⟩) (by assumption) ?r64
      case y64 => (intro w hSw; (try dsimp only at hSw); first | (go_simp; done) | (go_simp; with_reducible rfl))
      case' r64 => (simp only [Act.put, List.setIfInBounds_toArray, List.set_cons_zero, List.set_cons_succ])
      refine wpAnyH_take (i := 18) (oi := ⟨some 140, _, _, _, _, _⟩) (v := ?v65) rfl (by kernel_rfl) (by kernel_rfl) (by kernel_rfl) (fun _ _ _ h => h) (Or.inl ⟨by rfl, ?y65⟩) (by assumption) ?r65
      case y65 => (intro w hSw; (try dsimp only at hSw); first | (go_simp; done) | (go_simp; with_reducible rfl))
      case' r65 => (simp only [Act.put, List.setIfInBounds_toArray, List.set_cons_zero, List.set_cons_succ])
      refine wpAnyH_ready (rs := [15]) (by kernel_rfl) (by simp) ?_
      refine AllReadyH.cons (o := ⟨some 137, _, _, _, _, _⟩) rfl (fun K hK => ?_) AllReadyH.nil
      go_simp
      go_at_call 21; refine (HSum.sum_any (P 1) (L 1) Wb (hT.below hFb.out.below) (hFb.out.hash 1 (by omega)) hm1.out).mono ?_; rintro e Wc ⟨vc, rfl, hownc, hbc⟩; rw [hD1.out, hE1.out] at hownc; have hFc := Lib.hid (hFb.out.on hbc); have hra := Lib.hid (hra.out.below hbc); have hrb := Lib.hid (hrb.out.below hbc); obtain ⟨Xc, xc, rfl, _, hqc⟩ := own_reads_of_le (d := (0 : UInt8)) hownc; have hsc := string_of (c := xc) hqc; have hrc := Lib.hid hqc; clear hownc hbc hqc hFb; go_wp2_with fail
      refine hK.out _ _ ?_ (fun hHeld => ?_)
      · exact ⟨⟨hcells _ hFc.out, string_of (hra.out)⟩, string_of (hrb.out)⟩
      clear hK K
      try simp only [Act.put, List.setIfInBounds_toArray, List.set_cons_zero, List.set_cons_succ]
      refine wpAnyH_sharp (S2 := (fun w' => ((((w'.cell? ⟨bh, 0, none⟩ = some (.pointer (some ⟨P 0, 0, none⟩)) ∧ w'.cell? ⟨bh, 1, none⟩ = some (.pointer (some ⟨P 1, 0, none⟩)) ∧ w'.cell? ⟨bh + 1, 0, none⟩ = some (.slice A0 (L 0).length c0) ∧ w'.cell? ⟨bh + 1, 1, none⟩ = some (.slice A1 (L 1).length c1)) ∧ (convert 22 9 (.slice Xa 32 xa)).run Tryd.prog w' = .ok (.string (str D0)) w') ∧ (convert 22 9 (.slice Xb 32 xb)).run Tryd.prog w' = .ok (.string (str D0)) w') ∧ (convert 22 9 (.slice Xc 32 xc)).run Tryd.prog w' = .ok (.string (str D1)) w'))) (fun w h => h.1) _ _ _ _ ?_
      have hHeld2 := And.intro hHeld hsc
      clear hHeld
      have hHeld := hHeld2
      clear hHeld2
      refine wpAnyH_take (i := 16) (oi := ⟨some 138, _, _, _, _, _⟩) (v := ?v66) rfl (by kernel_rfl) (by kernel_rfl) (by kernel_rfl) (fun _ _ _ h => h) (Or.inl ⟨by rfl, ?y66⟩) (by assumption) ?r66
      case y66 => (intro w hSw; (try dsimp only at hSw); first | (go_simp; done) | (go_simp; with_reducible rfl))
      case' r66 => (simp only [Act.put, List.setIfInBounds_toArray, List.set_cons_zero, List.set_cons_succ])
      refine wpAnyH_ready (rs := [19]) (by kernel_rfl) (by simp) ?_
      refine AllReadyH.cons (o := ⟨some 141, _, _, _, _, _⟩) rfl (fun K hK => ?_) AllReadyH.nil
      go_simp
      go_at_call 17; refine (RefSum.sum_any A1 (L 1).length c1 (L 1) Wc (hR.below hFc.out.below) (hby1.out _ hFc.out) hn1.out).mono ?_; rintro e Wd ⟨vd, rfl, hownd, hbd⟩; rw [hD1.out, hE1.out] at hownd; have hFd := Lib.hid (hFc.out.on hbd); have hra := Lib.hid (hra.out.below hbd); have hrb := Lib.hid (hrb.out.below hbd); have hrc := Lib.hid (hrc.out.below hbd); obtain ⟨Xd, xd, rfl, _, hqd⟩ := own_reads_of_le (d := (0 : UInt8)) hownd; have hsd := string_of (c := xd) hqd; have hrd := Lib.hid hqd; clear hownd hbd hqd hFc; go_wp2_with fail
      refine hK.out _ _ ?_ (fun hHeld => ?_)
      · exact ⟨⟨⟨hcells _ hFd.out, string_of (hra.out)⟩, string_of (hrb.out)⟩, string_of (hrc.out)⟩
      clear hK K
      try simp only [Act.put, List.setIfInBounds_toArray, List.set_cons_zero, List.set_cons_succ]
      refine wpAnyH_sharp (S2 := (fun w' => (((((w'.cell? ⟨bh, 0, none⟩ = some (.pointer (some ⟨P 0, 0, none⟩)) ∧ w'.cell? ⟨bh, 1, none⟩ = some (.pointer (some ⟨P 1, 0, none⟩)) ∧ w'.cell? ⟨bh + 1, 0, none⟩ = some (.slice A0 (L 0).length c0) ∧ w'.cell? ⟨bh + 1, 1, none⟩ = some (.slice A1 (L 1).length c1)) ∧ (convert 22 9 (.slice Xa 32 xa)).run Tryd.prog w' = .ok (.string (str D0)) w') ∧ (convert 22 9 (.slice Xb 32 xb)).run Tryd.prog w' = .ok (.string (str D0)) w') ∧ (convert 22 9 (.slice Xc 32 xc)).run Tryd.prog w' = .ok (.string (str D1)) w') ∧ (convert 22 9 (.slice Xd 32 xd)).run Tryd.prog w' = .ok (.string (str D1)) w'))) (fun w h => h.1) _ _ _ _ ?_
      have hHeld2 := And.intro hHeld hsd
      clear hHeld
      have hHeld := hHeld2
      clear hHeld2
      refine wpAnyH_take (i := 20) (oi := ⟨some 142, _, _, _, _, _⟩) (v := ?v67) rfl (by kernel_rfl) (by kernel_rfl) (by kernel_rfl) (fun _ _ _ h => h) (Or.inl ⟨by rfl, ?y67⟩) (by assumption) ?r67
      case y67 => (intro w hSw; (try dsimp only at hSw); first | (go_simp; done) | (go_simp; with_reducible rfl))
      case' r67 => (simp only [Act.put, List.setIfInBounds_toArray, List.set_cons_zero, List.set_cons_succ])
      refine wpAnyH_take (i := 21) (oi := ⟨some 143, _, _, _, _, _⟩) (v := ?v68) rfl (by kernel_rfl) (by kernel_rfl) (by kernel_rfl) (fun _ _ _ h => h) (Or.inl ⟨by rfl, ?y68⟩) (by assumption) ?r68
      case y68 => (intro w hSw; (try dsimp only at hSw); first | (go_simp; done) | (go_simp; with_reducible rfl))
      case' r68 => (simp only [Act.put, List.setIfInBounds_toArray, List.set_cons_zero, List.set_cons_succ])
      refine wpAnyH_take (i := 22) (oi := ⟨some 144, _, _, _, _, _⟩) (v := ?v69) rfl (by kernel_rfl) (by kernel_rfl) (by kernel_rfl) (fun _ _ _ h => h) (Or.inl ⟨by rfl, ?y69⟩) (by assumption) ?r69
      case y69 => (intro w hSw; (try dsimp only at hSw); first | (go_simp; done) | (go_simp; with_reducible rfl))
      case' r69 => (simp only [Act.put, List.setIfInBounds_toArray, List.set_cons_zero, List.set_cons_succ])
      refine wpAnyH_take (i := 23) (oi := ⟨some 2, _, _, _, _, _⟩) (v := ?v70) rfl (by kernel_rfl) (by kernel_rfl) (by kernel_rfl) (fun _ _ _ h => h) (Or.inl ⟨by rfl, ?y70⟩) (by assumption) ?r70
      case y70 => (intro w hSw; (try dsimp only at hSw); first | (go_simp; done) | (go_simp; with_reducible rfl))
      case' r70 => (simp only [Act.put, List.setIfInBounds_toArray, List.set_cons_zero, List.set_cons_succ])
      refine wpAnyH_done (by kernel_rfl) ?_ _
      go_wp2_with fail
      go_ret
      exact ⟨rfl, hFd.out.below⟩
end Go.Proofs.YtcelojkecfiocaaDoor.Play
