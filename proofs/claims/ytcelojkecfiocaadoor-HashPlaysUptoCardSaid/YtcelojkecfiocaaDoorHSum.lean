/- Hash.Sum: the digest of all that was taken. Conditions: the tables hold their constants; what was taken is counted. -/
import Derived.Test.YtcelojkecfiocaaDoorWrite
namespace Go.Proofs.YtcelojkecfiocaaDoor.HSum
open Go.RowKit Go.Proofs.YtcelojkecfiocaaDoor.Bv Go.Proofs.YtcelojkecfiocaaDoor.Mem
open Go.Proofs.YtcelojkecfiocaaDoorW.PrintWords
open Go.Proofs.YtcelojkecfiocaaDoor.Changed (Tabs list8)
open Go.Proofs.YtcelojkecfiocaaDoor.Obj
open Go.Proofs.YtcelojkecfiocaaDoor.RefFilled (info5 Own Post)

theorem len_byte (m j : Nat) (hm : m ≤ 1125899906842624) : (m : Int) * 8 / 2 ^ (8 * (7 - j)) % 256 = tb (Sha.len8 m (7 - j)) := by
  unfold Sha.len8 tb
  rw [Nat.mod_eq_of_lt (by omega)]
  have e2 : (m : Int) * 8 / 2 ^ (8 * (7 - j)) = ((m * 8 / 2 ^ (8 * (7 - j)) : Nat) : Int) := by simp
  rw [e2, UInt8.toNat_ofNat']
  omega
theorem index8 {L : List (BitVec 32)} (n : Nat) (hL : L.length = 8) (hn : n < 8) (W : World) :
    (Instr.index 57 (.agg (L.map eu).toArray) (.int .i64 (n : Int))).run Tryd.prog W = .ok (eu (Sha.w32 L n)) W := by
  have h64 : Tryd.prog.underlying 57 = some (.array 8 54) := Tryd.underlying57
  have hs : (sizeOf 54).run Tryd.prog W = .ok 1 W := by kernel_rfl
  simp [Instr.index, asIntOf, Sem.run_bind, run_underlying h64, hs, part, hL, hn, Sha.w32]

theorem arr_grown {w w' : World} {g : Nat} {t : TypeId} {cs : List Value} (h : Arr w g t cs) (hg : w.grownBy w' none) : Arr w' g t cs := (hg.block g h.lt (by simp)).trans h
/-- Four bytes laid in a new block. -/
theorem reads_new (w : World) (l : List UInt8) (hl : l.length ≤ 9223372036854775807) : ReadsOf eb 0 (w.alloc (.cells (l.map eb).toArray 5)) (some ⟨w.heap.size, 0, none⟩) l.length l := by
  refine ⟨rfl, hl, fun _ => ⟨_, rfl, fun j hj => ?_⟩⟩
  rw [add_plain, (Arr.new w 5 (l.map eb)).cell]
  simp [hj]
/-- The first part: the rest, filled up. -/
def End (w : World) (E : List UInt8) (v : Value) (w' : World) : Prop := w'.ownsRow w.heap.size 5 1 v E.length (encs eb E) ∧ Below w.heap.size w w'

set_option maxRecDepth 100000 in
set_option maxHeartbeats 800000 in
theorem sum_any (p : Nat) (m : List UInt8) (w : World) (hT : Tabs w) (h : HashAt w p m) (hm : m.length ≤ 1125899906842624) :
    Calls Tryd.prog 21 #[.pointer (some ⟨p, 0, none⟩)] w (Post w (Sha.sha m)) := by
  obtain ⟨A0, c0, ho, hr0⟩ := h.ex
  have hold := h.old
  have hplt := h.lt
  have hrl := Sha.rest_lt m
  obtain ⟨a0, a1, a2, a3, a4, a5, a6, a7, h8⟩ := list8 (Sha.kept m) (Sha.kept_length m)
  have g8 : w.cell? ⟨p, 8, none⟩ = some (.slice A0 (Sha.rest m).length c0) := by rw [ho.cell, h8]; rfl
  have ho' := Lib.hid ho
  have h8' := Lib.hid h8
  clear h8 ho
  go_enter Tryd.func21, Tryd.ntmps21
  go_wp2_with (first | (at_builtin; (with_reducible refine print_append_row_of (w0 := w) (o := ⟨some 13, _, _, _, _, _⟩) eb 0 w.heap.size ?q1x0 (.const (.slice none 0 0)) (.tmp 12) 22 5 (.int .u8 0) 1 ?q1x1 Tryd.underlying22 info5 ?q1x2 ?q1x3 ?q1x4 (.slice none 0 0) [] (Sha.rest m) A0 (Sha.rest m).length c0 ?q1x5 ?q1x6 (own_nil _ _ _ _) hr0 (Below.refl _ _) ?q1x7 ?q1x8 ?q1x9); (case q1x0 => rfl); (case q1x1 => rfl); (case q1x2 => rfl); (case q1x3 => omega); (case q1x4 => exact fun _ => rfl); (case q1x5 => rfl); (case q1x6 => rfl); (case q1x7 => exact Nat.le_refl _); (case q1x8 => simp; omega); intro v1 w1 hown hbel _ _; simp only [List.nil_append] at hown) | (at_builtin; (with_reducible refine append_one (w0 := w) (o := ⟨some 15, _, _, _, _, _⟩) eb w.heap.size ?q2x0 (.tmp 13) (.tmp 14) 22 5 (.int .u8 0) 1 ?q2x1 Tryd.underlying22 info5 ?q2x2 ?q2x3 v1 (Sha.rest m) 128 _ ?q2x10 ?q2x4 ?q2x5 ?q2x6 hown hbel ?q2x7 ?q2x8 ?q2x9); (case q2x0 => rfl); (case q2x1 => rfl); (case q2x2 => rfl); (case q2x3 => omega); (case q2x4 => rfl); (case q2x5 => rfl); (case q2x6 => rfl); (case q2x7 => exact hbel.size); (case q2x8 => omega); (case q2x10 => exact rfl); intro v2 w2 hown2 hbel2 _ _))
  have hJ0 : Own w.heap.size w w2 v2 (Sha.rest m ++ [128]) := ⟨hbel2, hown2⟩
  clear hown hbel hown2 hbel2 hr0 g8
  go_loopg [3] (Sha.zeros (Sha.rest m).length) (fun k v wr => ∃ z : Nat, z + k = Sha.zeros (Sha.rest m).length ∧ ∃ L : List UInt8, Hid (L = Sha.rest m ++ 128 :: List.replicate z 0) ∧ L.length = (Sha.rest m).length + 1 + z ∧ Own w.heap.size w wr v L)
  case atStart => exact ⟨0, by omega, Sha.rest m ++ [128], by simp [Hid], by simp, hJ0⟩
  case round =>
    obtain ⟨z, hz, L, hL, hlen, hJ⟩ := hrel
    have hzl := Sha.zeros_lt (Sha.rest m).length
    have hzf := Sha.zeros_fit (Sha.rest m).length
    have hlen' := Lib.hid hlen
    have hLl : L.length ≤ 140 := by omega
    have hLl2 : (Sha.rest m).length + 1 + z ≤ L.length := by omega
    have hLl3 : L.length ≤ (Sha.rest m).length + 1 + z := by omega
    obtain ⟨A1, c1, rfl⟩ := hJ.slice
    clear hlen
    by_cases hlt : 0 < gk
    · have ht : ((L.length : Int) % 64 != 56) = true := by rw [bne_iff_ne]; omega
      have hz' := Lib.hid hz
      clear hz
      go_wp2_with (at_builtin; (with_reducible refine append_one (w0 := w) (o := ⟨some 22, _, _, _, _, _⟩) eb w.heap.size ?q3x0 (.tmp 20) (.tmp 21) 22 5 (.int .u8 0) 1 ?q3x1 Tryd.underlying22 info5 ?q3x2 ?q3x3 _ L 0 _ ?q3x10 ?q3x4 ?q3x5 ?q3x6 hJ.own hJ.below ?q3x7 ?q3x8 ?q3x9); (case q3x0 => rfl); (case q3x1 => rfl); (case q3x2 => rfl); (case q3x3 => omega); (case q3x4 => rfl); (case q3x5 => rfl); (case q3x6 => rfl); (case q3x7 => exact hJ.below.size); (case q3x8 => omega); (case q3x10 => exact rfl); intro v2 w2 hown2 hbel2 _ _)
      go_roundg (gk - 1)
      case measure => omega
      case rel =>
        refine ⟨z + 1, by have := hz'.out; omega, L ++ [0], ?_, by simp [hlen'.out]; omega, hbel2, hown2⟩
        have h1 := hL.out
        show L ++ [0] = _
        rw [h1, List.replicate_succ']
        simp
    · have ht : ((L.length : Int) % 64 != 56) = false := by rw [bne_eq_false_iff_eq]; omega
      have hz' := Lib.hid (show z = Sha.zeros (Sha.rest m).length by omega)
      clear hz
      have hJ1 := Lib.hid hJ
      clear hJ hzl hzf hlt hJ0
      go_wp2_with fail
      go_loopw [4, 3] (fun i v wr => ∃ j : Nat, j ≤ 8 ∧ i = .int .i64 (7 - (j : Int)) ∧ ∃ M : List UInt8, Hid (M = L ++ (Sha.lens m.length).take j) ∧ M.length ≤ 200 ∧ Own w.heap.size w wr v M) (fun i _ _ => (intOf i + 1).toNat)
      case atStart => exact ⟨0, by omega, rfl, L, by simp [Hid], by omega, hJ1.out⟩
      case round =>
        obtain ⟨j, hj, rfl, M, hM, hMl, hJ⟩ := hrel
        obtain ⟨A2, c2, rfl⟩ := hJ.slice
        have hob := ho'.out.below hJ.below
        by_cases hlj : j < 8
        · have hsh := Lib.hid (len_byte m.length j hm)
          have g9 : wr.cell? ⟨p, 9, none⟩ = some (.int .i64 (m.length : Int)) := by rw [hob.cell, h8'.out]; rfl
          have hML : M.length ≤ 150 + j := by
            have h1 := hM.out
            rw [h1]; simp; omega
          go_wp2_with (at_builtin; (with_reducible refine append_one (w0 := w) (o := ⟨some 39, _, _, _, _, _⟩) eb w.heap.size ?q4x0 (.tmp 27) (.tmp 38) 22 5 (.int .u8 0) 1 ?q4x1 Tryd.underlying22 info5 ?q4x2 ?q4x3 _ M (Sha.len8 m.length (7 - j)) _ ?q4x10 ?q4x4 ?q4x5 ?q4x6 hJ.own hJ.below ?q4x7 ?q4x8 ?q4x9); (case q4x0 => rfl); (case q4x1 => rfl); (case q4x2 => rfl); (case q4x3 => omega); (case q4x4 => rfl); (case q4x5 => rfl); (case q4x6 => rfl); (case q4x7 => exact hJ.below.size); (case q4x8 => omega); (case q4x10 => exact congrArg (Value.int .u8) hsh.out); intro v2 w2 hown2 hbel2 _ _)
          refine ⟨⟨j + 1, by omega, by go_num, M ++ [Sha.len8 m.length (7 - j)], ?_, by simp; omega, hbel2, hown2⟩, by simp [intOf]; omega⟩
          have h1 := hM.out
          show M ++ [Sha.len8 m.length (7 - j)] = _
          rw [h1, List.append_assoc]
          congr 1
          have h2 : j = 0 ∨ j = 1 ∨ j = 2 ∨ j = 3 ∨ j = 4 ∨ j = 5 ∨ j = 6 ∨ j = 7 := by omega
          rcases h2 with rfl | rfl | rfl | rfl | rfl | rfl | rfl | rfl <;> rfl
        · have hj8 := Lib.hid (show j = 8 by omega)
          have hME : M = Sha.rest m ++ Sha.pad m.length := by
            rw [hM.out, hL.out, hz'.out, hj8.out, Sha.zeros_rest]
            unfold Sha.pad
            rw [List.append_assoc]
            rfl
          have hMl2 := Lib.hid hMl
          have hcs := hob
          rw [h8'.out] at hcs
          have c0' := hcs.cell 0
          have c1' := hcs.cell 1
          have c2' := hcs.cell 2
          have c3' := hcs.cell 3
          have c4' := hcs.cell 4
          have c5' := hcs.cell 5
          have c6' := hcs.cell 6
          have c7' := hcs.cell 7
          simp only [cellsOf, List.map_cons, List.map_nil, List.cons_append, List.nil_append, List.getElem?_cons_zero, List.getElem?_cons_succ] at c0' c1' c2' c3' c4' c5' c6' c7'
          have hME' := Lib.hid hME
          obtain ⟨Ae, ce, hve, hce, hre⟩ := own_reads_of_le (d := (0 : UInt8)) hJ.own
          injection hve with e1 _ e3
          subst e1 e3
          have hT2 := hT.below hJ.below
          have hbw2 := hJ.below
          have hme := Lib.hid (show M.length % 64 = 0 by
            rw [hME, List.length_append, Sha.pad_length, Sha.rest_length]
            have := Sha.zeros_fit m.length
            omega)
          obtain ⟨wo, hwo⟩ : ∃ wo, wo = wr := ⟨_, rfl⟩
          rw [← hwo] at c0' c1' c2' c3' c4' c5' c6' c7' hre hT2 hbw2 ⊢
          clear hME hcs hob hJ hM hL hwo hMl
          go_wp2_with fail
          clear c0' c1' c2' c3' c4' c5' c6' c7'
          go_loopg [3] (M.length / 64) (fun k s wr => ∃ j N : Nat, j + k = M.length / 64 ∧ N ≤ M.length ∧ Hid (N + 64 * j = M.length) ∧ (∃ A c, s = .slice A N c ∧ N ≤ c ∧ ReadsOf eb 0 wo A N (M.drop (64 * j))) ∧ Below wo.heap.size wo wr ∧ Arr wr wo.heap.size 57 ((Sha.comp (Sha.kept m) M j).map eu))
          case atStart => exact ⟨0, M.length, by omega, by omega, by simp [Hid], ⟨_, _, rfl, hce, by simpa using hre⟩, (Below.refl _ _).alloc (Nat.le_refl _) _, by rw [show Sha.comp (Sha.kept m) M 0 = Sha.kept m from rfl, h8'.out]; exact Arr.new wo 57 ([a0, a1, a2, a3, a4, a5, a6, a7].map eu)⟩
          case round =>
            obtain ⟨j', N, hjk, hN, hNj, ⟨Aj, cj, rfl, hNc, hrj⟩, hbj, hxj⟩ := hrel
            obtain ⟨i0, hi, hz0, hi1, hb0⟩ := info_parts info5
            by_cases hlt : 0 < N
            · have hN64 : 64 ≤ N := by have h1 := hNj.out; have h2 := hme.out; omega
              obtain ⟨aj, rfl⟩ := reads_some hrj (by omega)
              have hs1 : ∀ W : World, (Instr.slice 22 (.slice (some aj) N cj) none (some (.int .i64 64)) none).run Tryd.prog W = .ok (.slice (some aj) 64 cj) W := fun W => by
                have hu : Tryd.prog.underlying 22 = some (.slice (Tryd.prog.elem 22)) := by simp [Program.elem, Tryd.underlying22]
                have hel : Tryd.prog.elem 22 = 5 := by simp [Program.elem, Tryd.underlying22]
                rw [run_slice_h W 22 (some aj) N cj hu .i64 64 (by omega) (by omega), hel]
                simp [sizeOf, typeInfo, hi, hi1, sliced, Result.andThen, Addr.add]
              obtain ⟨A2, hs2, hr2⟩ := print_cut_of (P := Tryd.prog) eb (0 : UInt8) 22 5 .i64 Tryd.underlying22 hi hi1 (some aj) N cj 64 (by omega)
              have hs2' := fun W => hs2 W
              simp only [Int.cast_ofNat_Int] at hs2'
              have hX8 := Sha.comp_length (Sha.kept m) M (Sha.kept_length m) j'
              obtain ⟨x0, x1, x2, x3, x4, x5, x6, x7, hXX⟩ := list8 _ hX8
              have hob := hxj
              rw [hXX] at hob
              have c0' := hob.cell 0
              have c1' := hob.cell 1
              have c2' := hob.cell 2
              have c3' := hob.cell 3
              have c4' := hob.cell 4
              have c5' := hob.cell 5
              have c6' := hob.cell 6
              have c7' := hob.cell 7
              simp only [List.map_cons, List.map_nil, List.getElem?_cons_zero, List.getElem?_cons_succ] at c0' c1' c2' c3' c4' c5' c6' c7'
              have hp64' := Lib.hid (hrj.take_ 64 hN64)
              have hcN := Lib.hid (hr2 wo (M.drop (64 * j')) hNc hrj)
              have hXX' := Lib.hid hXX
              have hs2'' := Lib.hid hs2'
              have hNj2 := Lib.hid hNj
              clear hs2 hs2' hr2 hXX hX8 hob hrj hNj
              go_wp2_with fail
              go_still_tail 3, (by kernel_rfl)
              replace hbj : Below wo.heap.size wo { wr with drawn := wr.drawn + 1 } := below_drewN hbj 1
              replace hxj : Arr { wr with drawn := wr.drawn + 1 } wo.heap.size 57 ((Sha.comp (Sha.kept m) M j').map eu) := hxj
              clear c0' c1' c2' c3' c4' c5' c6' c7'
              generalize ({ wr with drawn := wr.drawn + 1 } : World) = w5 at hbj hxj ⊢
              go_wp2_with fail
              refine (Changed.changed_any [x0, x1, x2, x3, x4, x5, x6, x7] rfl (some aj) cj ((M.drop (64 * j')).take 64) w5 (hT2.below hbj) (hp64'.out.below hbj) (by omega)).mono ?_
              rintro e w6 ⟨rfl, hb6⟩
              have hx6 := hxj.below hb6
              have hcomp : Sha.block [x0, x1, x2, x3, x4, x5, x6, x7] ((M.drop (64 * j')).take 64) = Sha.comp (Sha.kept m) M (j' + 1) := by rw [Sha.comp, hXX'.out]
              have hb7 : Below wo.heap.size wo (w6.setRow wo.heap.size ((Sha.comp (Sha.kept m) M (j' + 1)).map eu).toArray) := below_setRow (hbj.trans (hb6.mono hbj.size)) (Nat.le_refl _) _
              have hx7 : Arr (w6.setRow wo.heap.size ((Sha.comp (Sha.kept m) M (j' + 1)).map eu).toArray) wo.heap.size 57 ((Sha.comp (Sha.kept m) M (j' + 1)).map eu) := hx6.setRow _
              have hl8 := Sha.comp_length (Sha.kept m) M (Sha.kept_length m) (j' + 1)
              have hl7 := Sha.comp_length (Sha.kept m) M (Sha.kept_length m) j'
              rw [hcomp]
              obtain ⟨R, hRR⟩ : ∃ R, R = (Sha.comp (Sha.kept m) M (j' + 1)).map eu := ⟨_, rfl⟩
              have hsz : R.toArray.size = 8 := by rw [hRR]; simp [hl8]
              have hone : R.toArray.all (·.oneCell') = true := by rw [hRR]; simp [Value.oneCell']
              have hinf : (Tryd.prog.info? 57).map (·.size) = some R.toArray.size := (by kernel_rfl : (Tryd.prog.info? 57).map (·.size) = some 8).trans (congrArg some hsz.symm)
              have hRR' := Lib.hid hRR
              rw [← hRR] at hb7 hx7 ⊢
              have hold7 : (((Sha.comp (Sha.kept m) M j').map eu).toArray).size = R.toArray.size := by rw [hsz]; simp [hl7]
              have hs3 := hs2''.out
              clear hRR hl8 hl7 hb6 hbj hxj hcomp hs1
              go_wp2_with ((with_reducible refine wpList_store_row (o := ⟨none, Op.store 57 (.tmp 5) (.tmp 52), _, _, _, none⟩) ?l1 57 (.tmp 5) (.tmp 52) ?l2 wo.heap.size R.toArray ?l3 ?l4 57 ((Sha.comp (Sha.kept m) M j').map eu).toArray ?l6 hinf ?l7 hone ?l8); (case l1 => rfl); (case l2 => rfl); (case l3 => rfl); (case l4 => rfl); (case l6 => exact hx6); (case l7 => exact hold7))
              go_roundg (gk - 1)
              case measure => have := hNj2.out.out; omega
              case rel => exact ⟨j' + 1, N - 64, by have := hNj2.out.out; omega, by omega, by show N - 64 + 64 * (j' + 1) = M.length; have := hNj2.out.out; omega, ⟨A2, cj - 64, rfl, by omega, by have h1 := hcN.out; rw [List.drop_drop] at h1; rw [Nat.mul_add]; exact h1⟩, hb7, by rw [← hRR'.out]; exact hx7⟩
            · have hXf := Lib.hid (show Sha.sha m = Sha.out (Sha.comp (Sha.kept m) M j') by
                rw [Sha.sha_rest, ← hME'.out, show j' = M.length / 64 by have h1 := hNj.out; omega])
              have hX8 := Lib.hid (Sha.comp_length (Sha.kept m) M (Sha.kept_length m) j')
              obtain ⟨X, hXe⟩ : ∃ X, X = Sha.comp (Sha.kept m) M j' := ⟨_, rfl⟩
              rw [← hXe] at hxj hXf hX8
              have hJ2 : Own wo.heap.size wo wr (.slice none 0 0) [] := ⟨hbj, own_nil _ _ _ _⟩
              have hNj2 := Lib.hid hNj
              have hinf : (Tryd.prog.info? 57).map (·.size) = some (X.map eu).toArray.size := by
                rw [show (X.map eu).toArray.size = 8 by simp [hX8.out]]
                kernel_rfl
              clear hXe hNj hrj
              go_wp2_with (first | (at_make; (with_reducible refine wpList_make_own _ (o := ⟨some 53, _, _, _, _, _⟩) ?m1 (.const (.int .i64 0)) (.const (.int .i64 32)) 22 ?m2 wo.heap.size 5 i0 (.int .u8 0) 1 Tryd.underlying22 hi hz0 hi1 .i64 .i64 32 32 ?m3 ?m4 ?m5 ?m6 ?m7 ?m8 ?m9); (case m1 => rfl); (case m2 => rfl); (case m3 => rfl); (case m4 => rfl); (case m5 => rfl); (case m6 => (rw [hb0]; decide)); (case m7 => (unfold maxLen; omega)); (case m8 => exact hJ2.below.size); intro w6 hown6 hg6) | ((with_reducible refine wpList_load_row (o := ⟨some 54, Op.load 57 (.tmp 5), _, _, _, none⟩) ?k1 57 (.tmp 5) ?k2 wo.heap.size ?k3 57 (X.map eu).toArray (0, 0) (.array 8 54) ?k4 Tryd.underlying57 ?k5 hinf ?k6); (case k1 => rfl); (case k2 => rfl); (case k3 => rfl); (case k4 => exact (arr_grown hxj hg6)); (case k5 => rfl)))
              have hJ6 : Own wo.heap.size wo w6 (.slice (some ⟨wr.heap.size, 0, none⟩) 0 32) [] := ⟨hbj.grown hg6 hJ2.below.size (fun k hk => by cases hk), hown6⟩
              clear hxj hbj hg6 hown6 hJ2
              have hix := Lib.hid (fun (n : Nat) (hn : n < 8) W => index8 (L := X) n hX8.out hn W)
              go_loopw [55, 6] (fun i v wi => ∃ k : Nat, k ≤ 8 ∧ i = .int .i64 k ∧ ∃ L : List UInt8, Hid (L = Sha.out (X.take k)) ∧ L.length = 4 * k ∧ Own wo.heap.size wo wi v L) (fun i _ _ => 8 - (intOf i).toNat)
              case atStart => exact ⟨0, by omega, rfl, [], rfl, rfl, hJ6⟩
              case round =>
                obtain ⟨k, hk, rfl, L, hL, hlen, hK⟩ := hrel
                have hlen' := Lib.hid hlen
                have hL1 : L.length ≤ 32 := by omega
                by_cases hlk : k < 8
                · obtain ⟨xk, hxk⟩ : ∃ xk, xk = Sha.w32 X k := ⟨_, rfl⟩
                  have hi8 := hix.out k hlk
                  rw [← hxk] at hi8
                  have hxk' := Lib.hid hxk
                  have hnew : ReadsOf eb 0 (wr.alloc (.cells #[eb (Sha.low (xk >>> 24)), eb (Sha.low (xk >>> 16)), eb (Sha.low (xk >>> 8)), eb (Sha.low xk)] 5)) (some ⟨wr.heap.size, 0, none⟩) 4 (Sha.four xk) := reads_new wr (Sha.four xk) (by simp [Sha.four])
                  clear hlen hxk
                  go_wp2_with (at_builtin; (with_reducible refine print_append_row_of (w0 := wo) (o := ⟨some 71, _, _, _, _, _⟩) eb 0 wo.heap.size ?q5x0 (.tmp 58) (.tmp 70) 22 5 (.int .u8 0) 1 ?q5x1 Tryd.underlying22 info5 ?q5x2 ?q5x3 ?q5x4 u6 L (Sha.four xk) (some ⟨wr.heap.size, 0, none⟩) 4 4 ?q5x5 ?q5x6 (hK.own.alloc _) hnew (hK.below.alloc hK.below.size _) ?q5x7 ?q5x8 ?q5x9); (case q5x0 => rfl); (case q5x1 => rfl); (case q5x2 => rfl); (case q5x3 => omega); (case q5x4 => exact fun _ => rfl); (case q5x5 => rfl); (case q5x6 => rfl); (case q5x7 => simp; have := hK.below.size; omega); (case q5x8 => have := hlen'.out; omega); intro v7 w7 hown7 hbel7 _ _)
                  refine ⟨⟨k + 1, by omega, by go_num, L ++ Sha.four xk, ?_, by simp [Sha.four, hlen'.out]; omega, hbel7, hown7⟩, by simp [intOf]; omega⟩
                  show L ++ Sha.four xk = _
                  have hk9 : k < X.length := by have := hX8.out; omega
                  rw [hL.out, List.take_succ_eq_append_getElem hk9, Sha.out, Sha.out, List.flatMap_append, hxk'.out]
                  simp [Sha.w32, hk9]
                · have hk8 := Lib.hid (show k = 8 by omega)
                  clear hlen
                  go_wp2_with fail
                  go_ret
                  have h2 : L = Sha.sha m := by
                    rw [hL.out, hk8.out, List.take_of_length_le (by have := hX8.out; omega), hXf.out]
                  refine ⟨_, rfl, ?_, hbw2.trans (hK.below.mono hbw2.size)⟩
                  have h1 := hK.own
                  rw [h2] at h1
                  exact own_weaken h1 hbw2.size
end Go.Proofs.YtcelojkecfiocaaDoor.HSum
