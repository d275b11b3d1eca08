/- Hash.Write: a hash takes some bytes behind those that it took. Conditions: the bytes can be read and lie within the form's reach; what is taken in all is counted by an int. -/
import Derived.Test.YtcelojkecfiocaaDoorObj
import Derived.Test.YtcelojkecfiocaaDoorRefFilled
import Derived.Deep.RegionHeld3
import Derived.RegionCalls
namespace Go.Proofs.YtcelojkecfiocaaDoor.Write
open Go.RowKit Go.Proofs.YtcelojkecfiocaaDoor.Bv Go.Proofs.YtcelojkecfiocaaDoor.Mem
open Go.Proofs.YtcelojkecfiocaaDoorW.PrintWords
open Go.Proofs.YtcelojkecfiocaaDoor.Changed (Tabs list8)
open Go.Proofs.YtcelojkecfiocaaDoor.Obj
open Go.Proofs.YtcelojkecfiocaaDoor.RefFilled (info5)

/-- Bytes that are read stand outside a hash's block. -/
theorem reads_but {w w' : World} {p : Nat} {X : List (BitVec 32)} {A0 : Option Addr} {k0 c0 q : Nat} (ho : Arr w p 59 (cellsOf X (.slice A0 k0 c0) q)) (hb : But p w w')
    {A : Option Addr} {n : Nat} {l : List UInt8} (h : ReadsOf eb 0 w A n l) : ReadsOf eb 0 w' A n l := by
  refine ⟨h.1, h.2.1, fun hn => ?_⟩
  obtain ⟨ad, e, hc⟩ := h.2.2 hn
  refine ⟨ad, e, fun j hj => ?_⟩
  have hcj := hc j hj
  have hl := World.block_lt_of_cell? w _ hcj
  have hnp : (ad.add j).block ≠ p := by
    intro hep
    have hs : (ad.add j).spot = none ∨ (ad.add j).spot ≠ none := Classical.em _
    rcases hs with hs | hs
    · have e2 : ad.add j = ⟨p, (ad.add j).off, none⟩ := by
        rw [← hep, ← hs]
      rw [e2, ho.cell] at hcj
      exact cells_no_byte _ _ _ _ _ _ _ hcj
    · have hsm : (ad.add j).spot.isSome = true := by
        cases hq : (ad.add j).spot with
        | none => exact absurd hq hs
        | some _ => rfl
      unfold World.cell? at hcj
      split at hcj
      · rw [if_pos hsm] at hcj; cases hcj
      · cases hcj
  rw [← hcj]
  exact World.cell?_of_block (hb.block _ hl hnp)

/-- Eight words, laid at the head of a hash's block. -/
def put8 (w : World) (p : Nat) (Y : List (BitVec 32)) : World := w.setCells p 0 (Y.map eu)
theorem arr_setCells {w : World} {p : Nat} {t : TypeId} : ∀ (vs a z : List Value), Arr w p t (a ++ vs ++ z) → ∀ ys : List Value, ys.length = vs.length → Arr (w.setCells p a.length ys) p t (a ++ ys ++ z) := by
  intro vs
  induction vs generalizing w with
  | nil =>
    intro a z h ys hy
    obtain rfl : ys = [] := List.eq_nil_of_length_eq_zero hy
    exact h
  | cons v vs ih =>
    intro a z h ys hy
    match ys, hy with
    | y :: ys, hy =>
      have h1 := h.set a.length y
      rw [List.append_assoc, List.cons_append, set_mid _ _ _ _ _ rfl] at h1
      have h2 := ih (a ++ [y]) z (by simpa using h1) ys (by simpa using hy)
      simpa [World.setCells] using h2
theorem but_setCells {p : Nat} {w : World} : ∀ (vs : List Value) (o : Nat) (w1 : World), But p w w1 → But p w (w1.setCells p o vs)
  | [], _, _, h => h
  | v :: r, o, _, h => but_setCells r (o + 1) _ (h.setCell o v)
theorem put8_run {w : World} {p : Nat} {X : List (BitVec 32)} {v : Value} {n : Nat} (h : Arr w p 59 (cellsOf X v n)) (hX : X.length = 8) (Y : List (BitVec 32)) (hY : Y.length = 8) :
    (storeCells ⟨p, 0, none⟩ (Y.map eu)).run Tryd.prog w = .ok () (put8 w p Y) := by
  refine run_storeCells_cells p 0 (Y.map eu) 0 w (fun j hj => ?_) (fun j _ => h.free _) (fun u hu => ?_)
  · rw [h.cell]
    simp [cellsOf]
    simp at hj
    omega
  · obtain ⟨y, _, rfl⟩ := List.mem_map.1 hu
    rfl
theorem put8_arr {w : World} {p : Nat} {X : List (BitVec 32)} {v : Value} {n : Nat} (h : Arr w p 59 (cellsOf X v n)) (hX : X.length = 8) (Y : List (BitVec 32)) (hY : Y.length = 8) :
    Arr (put8 w p Y) p 59 (cellsOf Y v n) :=
  arr_setCells (X.map eu) [] [v, .int .i64 (n : Int)] h (Y.map eu) (by simp [hX, hY])
theorem put8_but {w w1 : World} {p : Nat} (h : But p w w1) (Y : List (BitVec 32)) : But p w (put8 w1 p Y) := but_setCells _ _ _ h

def Post (p : Nat) (m : List UInt8) (w : World) (e : Ending) (w' : World) : Prop := e = .returned (.tuple #[]) ∧ HashAt w' p m ∧ But p w w'

structure Rel (p : Nat) (w1 wr : World) (L : List UInt8) (K : List (BitVec 32)) (v : Value) (many j N : Nat) (s : Value) : Prop where
  but : But p w1 wr
  obj : Arr wr p 59 (cellsOf (Sha.comp K L j) v many)
  all : ∃ A c, s = .slice A N c ∧ N ≤ c ∧ ReadsOf eb 0 wr A N (L.drop (64 * j))
  tabs : Tabs wr

set_option maxRecDepth 100000 in
set_option maxHeartbeats 800000 in
theorem write_any (p : Nat) (m : List UInt8) (A : Option Addr) (n c : Nat) (l : List UInt8) (w : World) (hT : Tabs w) (h : HashAt w p m) (hr : ReadsOf eb 0 w A n l) (hn : n ≤ 140737488351232) (hmn : m.length + n ≤ 9223372036854775807) :
    Calls Tryd.prog 20 #[.pointer (some ⟨p, 0, none⟩), .slice A n c] w (Post p (m ++ l) w) := by
  obtain ⟨A0, c0, ho, hr0⟩ := h.ex
  have hold := h.old
  have hplt := h.lt
  obtain ⟨a0, a1, a2, a3, a4, a5, a6, a7, h8⟩ := list8 (Sha.kept m) (Sha.kept_length m)
  have hln := Lib.hid hr.1
  have h9 : w.cell? ⟨p, 9, none⟩ = some (.int .i64 (m.length : Int)) := by rw [ho.cell, h8]; rfl
  have f9 := ho.free 9
  have w1o : Arr (w.setCell ⟨p, 9, none⟩ (.int .i64 ((m.length : Int) + n))) p 59 (cellsOf (Sha.kept m) (.slice A0 (Sha.rest m).length c0) (m.length + n)) := by
    have h1 := ho.set 9 (.int .i64 ((m.length : Int) + n))
    have h2 : (cellsOf (Sha.kept m) (.slice A0 (Sha.rest m).length c0) m.length).set 9 (.int .i64 ((m.length : Int) + n)) = cellsOf (Sha.kept m) (.slice A0 (Sha.rest m).length c0) (m.length + n) := by
      rw [h8]; simp [cellsOf]
    rwa [h2] at h1
  have hb1 : But p w (w.setCell ⟨p, 9, none⟩ (.int .i64 ((m.length : Int) + n))) := (But.refl p w).setCell 9 _
  have hr0 := reads_but ho hb1 hr0
  have hr1 := reads_but ho hb1 hr
  have hT1 := hb1.tabs hT hold
  have h8' := Lib.hid h8
  have hrl := Sha.rest_lt m
  clear h8 ho h hr
  go_enter Tryd.func20, Tryd.ntmps20
  go_upto_region 1 with (fail)
  clear h9 f9
  generalize w.setCell ⟨p, 9, none⟩ (.int .i64 ((m.length : Int) + n)) = w1 at w1o hb1 hr0 hr1 hT1 ⊢
  have g8 : w1.cell? ⟨p, 8, none⟩ = some (.slice A0 (Sha.rest m).length c0) := by rw [w1o.cell, h8'.out]; rfl
  go_wp2_with (first | (at_builtin; (with_reducible refine print_append_row_of (w0 := w1) (o := ⟨some 18, _, _, _, _, _⟩) eb 0 w1.heap.size ?q1x0 (.const (.slice none 0 0)) (.tmp 17) 22 5 (.int .u8 0) 1 ?q1x1 Tryd.underlying22 info5 ?q1x2 ?q1x3 ?q1x4 (.slice none 0 0) [] (Sha.rest m) A0 (Sha.rest m).length c0 ?q1x5 ?q1x6 (own_nil _ _ _ _) hr0 (Below.refl _ _) ?q1x7 ?q1x8 ?q1x9); (case q1x0 => rfl); (case q1x1 => rfl); (case q1x2 => rfl); (case q1x3 => omega); (case q1x4 => exact fun _ => rfl); (case q1x5 => rfl); (case q1x6 => rfl); (case q1x7 => exact Nat.le_refl _); (case q1x8 => simp; omega); intro v1 w2 hown hbel _ _; simp only [List.nil_append] at hown) | (at_builtin; (with_reducible refine print_append_row_of (w0 := w1) (o := ⟨some 20, _, _, _, _, _⟩) eb 0 w1.heap.size ?q2x0 (.tmp 18) (.tmp 19) 22 5 (.int .u8 0) 1 ?q2x1 Tryd.underlying22 info5 ?q2x2 ?q2x3 ?q2x4 v1 (Sha.rest m) l A n c ?q2x5 ?q2x6 hown (hr1.below hbel) hbel ?q2x7 ?q2x8 ?q2x9); (case q2x0 => rfl); (case q2x1 => rfl); (case q2x2 => rfl); (case q2x3 => omega); (case q2x4 => exact fun _ => rfl); (case q2x5 => rfl); (case q2x6 => rfl); (case q2x7 => exact hbel.size); (case q2x8 => omega); intro v2 w3 hown2 hbel2 _ _))
  have hr3 := own_reads_of_le (d := (0 : UInt8)) hown2
  obtain ⟨Ab, cb, rfl, hcb, hrb⟩ := hr3
  have hb3 := hb1.trans (But.of_below hbel2)
  obtain ⟨L, hLe⟩ : ∃ L, L = Sha.rest m ++ l := ⟨_, rfl⟩
  rw [← hLe] at hrb hcb ⊢
  have hI : Rel p w w3 L (Sha.kept m) (.slice A0 (Sha.rest m).length c0) (m.length + n) 0 L.length (.slice Ab L.length cb) := ⟨hb3, w1o.below hbel2, ⟨Ab, cb, rfl, hcb, by simpa using hrb⟩, hT1.below hbel2⟩
  have hLe' := Lib.hid hLe
  have hLm : L.length ≤ 140737488351232 + 64 := by rw [hLe, List.length_append]; have := hln.out; omega
  clear hown2 hbel2 hbel hown hrb hcb hb3 hLe g8 hT1 w1o hr1 hr0 hb1
  go_loopg [4] (L.length / 64) (fun k s wr => ∃ j N : Nat, j + k = L.length / 64 ∧ N ≤ L.length ∧ Hid (N + 64 * j = L.length) ∧ Rel p w wr L (Sha.kept m) (.slice A0 (Sha.rest m).length c0) (m.length + n) j N s)
  case atStart => exact ⟨0, L.length, by omega, by omega, by simp [Hid], hI⟩
  case round =>
    obtain ⟨j, N, hjk, hN, hNj, hJ⟩ := hrel
    obtain ⟨Aj, cj, rfl, hNc, hrj⟩ := hJ.all
    by_cases hlt : 64 ≤ N
    · obtain ⟨aj, rfl⟩ := reads_some hrj (by omega)
      obtain ⟨i0, hi, _, hi1, _⟩ := info_parts info5
      have hs1 : ∀ W : World, (Instr.slice 22 (.slice (some aj) N cj) none (some (.int .i64 64)) none).run Tryd.prog W = .ok (.slice (some aj) 64 cj) W := fun W => by
        have hu : Tryd.prog.underlying 22 = some (.slice (Tryd.prog.elem 22)) := by simp [Program.elem, Tryd.underlying22]
        have hel : Tryd.prog.elem 22 = 5 := by simp [Program.elem, Tryd.underlying22]
        rw [run_slice_h W 22 (some aj) N cj hu .i64 64 (by omega) (by omega), hel]
        simp [sizeOf, typeInfo, hi, hi1, sliced, Result.andThen, Addr.add]
      obtain ⟨A2, hs2, hr2⟩ := print_cut_of (P := Tryd.prog) eb (0 : UInt8) 22 5 .i64 Tryd.underlying22 hi hi1 (some aj) N cj 64 (by omega)
      have hs2' := fun W => hs2 W
      simp only [Int.cast_ofNat_Int] at hs2'
      have hX8 := Sha.comp_length (Sha.kept m) L (Sha.kept_length m) j
      obtain ⟨x0, x1, x2, x3, x4, x5, x6, x7, hXX⟩ := list8 _ hX8
      have hob := hJ.obj
      rw [hXX] at hob
      have c0' := hob.cell 0
      have c1' := hob.cell 1
      have c2' := hob.cell 2
      have c3' := hob.cell 3
      have c4' := hob.cell 4
      have c5' := hob.cell 5
      have c6' := hob.cell 6
      have c7' := hob.cell 7
      simp only [cellsOf, List.map_cons, List.map_nil, List.cons_append, List.nil_append, List.getElem?_cons_zero, List.getElem?_cons_succ] at c0' c1' c2' c3' c4' c5' c6' c7'
      have f0 := hob.free 0
      have f1 := hob.free 1
      have f2 := hob.free 2
      have f3 := hob.free 3
      have f4 := hob.free 4
      have f5 := hob.free 5
      have f6 := hob.free 6
      have f7 := hob.free 7
      have hXX' := Lib.hid hXX
      have hob' := Lib.hid (show Arr wr.drew p 59 _ from hJ.obj)
      have hX8' := Lib.hid hX8
      have hs2'' := Lib.hid hs2'
      have hr2' := Lib.hid hr2
      have hrj' := Lib.hid hrj
      have hp64 : ReadsOf eb 0 wr (some aj) 64 ((L.drop (64 * j)).take 64) := hrj.take_ 64 (by omega)
      have hp64' := Lib.hid (show ReadsOf eb 0 wr.drew (some aj) 64 ((L.drop (64 * j)).take 64) from hp64)
      have hTd := Lib.hid (show Tabs wr.drew from ⟨hJ.tabs.start, hJ.tabs.rounds, hJ.tabs.size⟩)
      have hJ' := Lib.hid hJ
      clear hs2 hs2' hr2 hXX hX8 hob hrj hp64 hJ
      go_wp2_with fail
      go_region_with (go_at_call 38; refine (Changed.changed_any [x0, x1, x2, x3, x4, x5, x6, x7] rfl (some aj) cj ((L.drop (64 * j)).take 64) wr.drew hTd.out hp64'.out (by omega)).mono ?_; rintro e w4 ⟨rfl, hb4⟩; have hst := put8_run (hob'.out.below hb4) hX8'.out (Sha.block [x0, x1, x2, x3, x4, x5, x6, x7] ((L.drop (64 * j)).take 64)) (Sha.block_length _ _ rfl))
      have hob4 := hob'.out.below hb4
      have hbut : But p w (put8 w4 p (Sha.block [x0, x1, x2, x3, x4, x5, x6, x7] ((L.drop (64 * j)).take 64))) := put8_but ((hJ'.out.but.drewN 1).trans (But.of_below hb4)) _
      have hobj := put8_arr hob4 hX8'.out (Sha.block [x0, x1, x2, x3, x4, x5, x6, x7] ((L.drop (64 * j)).take 64)) (Sha.block_length _ _ rfl)
      have hcomp : Sha.comp (Sha.kept m) L (j + 1) = Sha.block [x0, x1, x2, x3, x4, x5, x6, x7] ((L.drop (64 * j)).take 64) := by rw [Sha.comp, hXX'.out]
      rw [← hcomp] at hbut hobj ⊢
      have htb := hbut.tabs hT hold
      have hcN := hr2'.out wr (L.drop (64 * j)) hNc hrj'.out
      have hbw : But p wr (put8 w4 p (Sha.comp (Sha.kept m) L (j + 1))) := put8_but ((But.refl p wr).drewN 1 |>.trans (But.of_below hb4)) _
      have hall := reads_but hJ'.out.obj hbw hcN
      rw [List.drop_drop] at hall
      have hK : Rel p w (put8 w4 p (Sha.comp (Sha.kept m) L (j + 1))) L (Sha.kept m) (.slice A0 (Sha.rest m).length c0) (m.length + n) (j + 1) (N - 64) (.slice A2 (N - 64) (cj - 64)) :=
        ⟨hbut, hobj, ⟨A2, cj - 64, rfl, by omega, by rw [Nat.mul_add]; exact hall⟩, htb⟩
      clear hst hb4 hob4 hbut hobj hcomp htb hcN hbw hall c0' c1' c2' c3' c4' c5' c6' c7' f0 f1 f2 f3 f4 f5 f6 f7 hs1
      generalize put8 w4 p (Sha.comp (Sha.kept m) L (j + 1)) = w5 at hK ⊢
      have hs3 := hs2''.out
      have hNj' := hNj.out
      have hNj2 := Lib.hid hNj'
      clear hNj'
      go_wp2_with fail
      go_roundg (gk - 1)
      case measure => have := hNj2.out; omega
      case rel => exact ⟨j + 1, N - 64, by have := hNj2.out; omega, by omega, by show N - 64 + 64 * (j + 1) = L.length; have := hNj2.out; omega, hK⟩
    · have hob := hJ.obj
      have c8 : ∃ u, wr.cell? ⟨p, 8, none⟩ = some u := by
        rw [hob.cell]
        have := Sha.comp_length (Sha.kept m) L (Sha.kept_length m) j
        simp [cellsOf, this]
      obtain ⟨u8, c8⟩ := c8
      have f8 := hob.free 8
      have hres : Post p (m ++ l) w (.returned (.tuple #[])) (wr.setCell ⟨p, 8, none⟩ (.slice Aj N cj)) := by
        have hN' := hNj.out
        have hjd : j = L.length / 64 := by omega
        refine ⟨rfl, ⟨⟨Aj, cj, ?_, ?_⟩, hold⟩, hJ.but.setCell 8 _⟩
        · have h1 := hob.set 8 (.slice Aj N cj)
          have h2 : (cellsOf (Sha.comp (Sha.kept m) L j) (.slice A0 (Sha.rest m).length c0) (m.length + n)).set 8 (.slice Aj N cj) = cellsOf (Sha.kept (m ++ l)) (.slice Aj (Sha.rest (m ++ l)).length cj) (m ++ l).length := by
            have hlen : (Sha.rest (m ++ l)).length = N := by rw [Sha.rest_append, ← hLe'.out, List.length_drop]; omega
            rw [hlen, Sha.kept_append, ← hLe'.out, ← hjd, List.length_append, hln.out]
            obtain ⟨y0, y1, y2, y3, y4, y5, y6, y7, hY⟩ := list8 _ (Sha.comp_length (Sha.kept m) L (Sha.kept_length m) j)
            rw [hY]; simp [cellsOf]
          rwa [h2] at h1
        · have hlen : (Sha.rest (m ++ l)).length = N := by rw [Sha.rest_append, ← hLe'.out, List.length_drop]; omega
          rw [hlen, Sha.rest_append, ← hLe'.out, ← hjd]
          exact reads_but hob ((But.refl p wr).setCell 8 _) hrj
      have hres' := Lib.hid hres
      have hNj2 := Lib.hid hNj.out
      clear hres hob hJ hrj hNj
      go_wp2_with fail
      go_end0
      exact hres'.out
end Go.Proofs.YtcelojkecfiocaaDoor.Write
