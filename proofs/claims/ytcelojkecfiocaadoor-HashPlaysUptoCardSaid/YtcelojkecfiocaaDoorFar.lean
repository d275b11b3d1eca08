/- Hash.Write once more, with a word on where the rest lies: in a new block. Hash.Clone likewise. -/
import Derived.Test.YtcelojkecfiocaaDoorClone
import Derived.Test.YtcelojkecfiocaaDoorStr
namespace Go.Proofs.YtcelojkecfiocaaDoor.Far
open Go.RowKit Go.Proofs.YtcelojkecfiocaaDoor.Bv Go.Proofs.YtcelojkecfiocaaDoor.Mem
open Go.Proofs.YtcelojkecfiocaaDoorW.PrintWords
open Go.Proofs.YtcelojkecfiocaaDoor.Changed (Tabs list8)
open Go.Proofs.YtcelojkecfiocaaDoor.Obj
open Go.Proofs.YtcelojkecfiocaaDoor.RefFilled (info5)
open Go.Proofs.YtcelojkecfiocaaDoor.Write (reads_but put8 arr_setCells but_setCells put8_run put8_arr put8_but)

/-- A hash whose rest lies in a block that F tells. -/
structure HashBy (F : Nat → Prop) (w : World) (p : Nat) (m : List UInt8) : Prop where
  ex : ∃ A c, Arr w p 59 (cellsOf (Sha.kept m) (.slice A (Sha.rest m).length c) m.length) ∧ ReadsOf eb 0 w A (Sha.rest m).length (Sha.rest m) ∧ (0 < (Sha.rest m).length → ∀ a, A = some a → F a.block)
  old : 4 ≤ p
theorem HashBy.at {F : Nat → Prop} {w : World} {p : Nat} {m : List UInt8} (h : HashBy F w p m) : HashAt w p m := by
  obtain ⟨A, c, h1, h2, _⟩ := h.ex
  exact ⟨⟨A, c, h1, h2⟩, h.old⟩
theorem HashBy.mono {F G : Nat → Prop} {w : World} {p : Nat} {m : List UInt8} (h : HashBy F w p m) (hFG : ∀ g, g < w.heap.size → F g → G g) : HashBy G w p m := by
  obtain ⟨A, c, h1, h2, h3⟩ := h.ex
  exact ⟨⟨A, c, h1, h2, fun h0 a e => hFG _ (Str.reads_lt h2 h0 a e) (h3 h0 a e)⟩, h.old⟩
theorem HashBy.none {F : Nat → Prop} {w : World} {p : Nat} (h : HashAt w p []) : HashBy F w p [] := by
  obtain ⟨A, c, h1, h2⟩ := h.ex
  exact ⟨⟨A, c, h1, h2, fun h0 => absurd h0 (by decide)⟩, h.old⟩
theorem own_far {w : World} {base : Nat} {A : Option Addr} {n c : Nat} {xs : List Value} (h : w.ownsRow base 5 1 (.slice A n c) n xs) : ∀ a, A = some a → base ≤ a.block := by
  intro a e
  rcases h.2 with ⟨h2, _⟩ | ⟨g, cap, cur, hv, hb, _⟩
  · injection h2 with e1; rw [e1] at e; cases e
  · injection hv with e1; rw [e1] at e; cases e; exact hb
def Post (p : Nat) (m : List UInt8) (w : World) (e : Ending) (w' : World) : Prop := e = .returned (.tuple #[]) ∧ HashBy (w.heap.size ≤ ·) w' p m ∧ But p w w'

structure Rel (W0 p : Nat) (w1 wr : World) (L : List UInt8) (K : List (BitVec 32)) (v : Value) (many j N : Nat) (s : Value) : Prop where
  but : But p w1 wr
  obj : Arr wr p 59 (cellsOf (Sha.comp K L j) v many)
  all : ∃ A c, s = .slice A N c ∧ N ≤ c ∧ ReadsOf eb 0 wr A N (L.drop (64 * j)) ∧ ∀ a, A = some a → W0 ≤ a.block
  tabs : Tabs wr

set_option maxRecDepth 100000 in
set_option maxHeartbeats 800000 in
theorem write_any (p : Nat) (m : List UInt8) (A : Option Addr) (n c : Nat) (l : List UInt8) (w : World) (hT : Tabs w) (h : HashAt w p m) (hr : ReadsOf eb 0 w A n l) (hn : n ≤ 140737488351232) (hmn : m.length + n ≤ 9223372036854775807) :
    Calls Tryd.prog 20 #[.pointer (some ⟨p, 0, none⟩), .slice A n c] w (Post p (m ++ l) w) := by
  obtain ⟨A0, c0, ho, hr0⟩ := h.ex
  have hold := h.old
  have hplt := h.lt
  obtain ⟨a0, a1, a2, a3, a4, a5, a6, a7, h8⟩ := list8 (Sha.kept m) (Sha.kept_length m)
  have hln := Lib.hid hr.1
  have h9 : w.cell? ⟨p, 9, none⟩ = some (.int .i64 (m.length : Int)) := by rw [ho.cell, h8]; rfl
  have f9 := ho.free 9
  have w1o : Arr (w.setCell ⟨p, 9, none⟩ (.int .i64 ((m.length : Int) + n))) p 59 (cellsOf (Sha.kept m) (.slice A0 (Sha.rest m).length c0) (m.length + n)) := by
    have h1 := ho.set 9 (.int .i64 ((m.length : Int) + n))
    have h2 : (cellsOf (Sha.kept m) (.slice A0 (Sha.rest m).length c0) m.length).set 9 (.int .i64 ((m.length : Int) + n)) = cellsOf (Sha.kept m) (.slice A0 (Sha.rest m).length c0) (m.length + n) := by
      rw [h8]; simp [cellsOf]
    rwa [h2] at h1
  have hb1 : But p w (w.setCell ⟨p, 9, none⟩ (.int .i64 ((m.length : Int) + n))) := (But.refl p w).setCell 9 _
  have hr0 := reads_but ho hb1 hr0
  have hr1 := reads_but ho hb1 hr
  have hT1 := hb1.tabs hT hold
  have h8' := Lib.hid h8
  have hrl := Sha.rest_lt m
  clear h8 ho h hr
  go_enter Tryd.func20, Tryd.ntmps20
  go_upto_region 1 with (fail)
  clear h9 f9
  generalize w.setCell ⟨p, 9, none⟩ (.int .i64 ((m.length : Int) + n)) = w1 at w1o hb1 hr0 hr1 hT1 ⊢
  have g8 : w1.cell? ⟨p, 8, none⟩ = some (.slice A0 (Sha.rest m).length c0) := by rw [w1o.cell, h8'.out]; rfl
  go_wp2_with (first | (at_builtin; (with_reducible refine print_append_row_of (w0 := w1) (o := ⟨some 18, _, _, _, _, _⟩) eb 0 w1.heap.size ?q1x0 (.const (.slice none 0 0)) (.tmp 17) 22 5 (.int .u8 0) 1 ?q1x1 Tryd.underlying22 info5 ?q1x2 ?q1x3 ?q1x4 (.slice none 0 0) [] (Sha.rest m) A0 (Sha.rest m).length c0 ?q1x5 ?q1x6 (own_nil _ _ _ _) hr0 (Below.refl _ _) ?q1x7 ?q1x8 ?q1x9); (case q1x0 => rfl); (case q1x1 => rfl); (case q1x2 => rfl); (case q1x3 => omega); (case q1x4 => exact fun _ => rfl); (case q1x5 => rfl); (case q1x6 => rfl); (case q1x7 => exact Nat.le_refl _); (case q1x8 => simp; omega); intro v1 w2 hown hbel _ _; simp only [List.nil_append] at hown) | (at_builtin; (with_reducible refine print_append_row_of (w0 := w1) (o := ⟨some 20, _, _, _, _, _⟩) eb 0 w1.heap.size ?q2x0 (.tmp 18) (.tmp 19) 22 5 (.int .u8 0) 1 ?q2x1 Tryd.underlying22 info5 ?q2x2 ?q2x3 ?q2x4 v1 (Sha.rest m) l A n c ?q2x5 ?q2x6 hown (hr1.below hbel) hbel ?q2x7 ?q2x8 ?q2x9); (case q2x0 => rfl); (case q2x1 => rfl); (case q2x2 => rfl); (case q2x3 => omega); (case q2x4 => exact fun _ => rfl); (case q2x5 => rfl); (case q2x6 => rfl); (case q2x7 => exact hbel.size); (case q2x8 => omega); intro v2 w3 hown2 hbel2 _ _))
  have hr3 := own_reads_of_le (d := (0 : UInt8)) hown2
  obtain ⟨Ab, cb, rfl, hcb, hrb⟩ := hr3
  have hfar : ∀ a, Ab = some a → w.heap.size ≤ a.block := fun a e => Nat.le_trans hb1.size (own_far hown2 a e)
  have hb3 := hb1.trans (But.of_below hbel2)
  obtain ⟨L, hLe⟩ : ∃ L, L = Sha.rest m ++ l := ⟨_, rfl⟩
  rw [← hLe] at hrb hcb ⊢
  have hI : Rel w.heap.size p w w3 L (Sha.kept m) (.slice A0 (Sha.rest m).length c0) (m.length + n) 0 L.length (.slice Ab L.length cb) := ⟨hb3, w1o.below hbel2, ⟨Ab, cb, rfl, hcb, by simpa using hrb, hfar⟩, hT1.below hbel2⟩
  have hLe' := Lib.hid hLe
  have hLm : L.length ≤ 140737488351232 + 64 := by rw [hLe, List.length_append]; have := hln.out; omega
  clear hown2 hbel2 hbel hown hrb hcb hb3 hLe g8 hT1 w1o hr1 hr0 hb1
  go_loopg [4] (L.length / 64) (fun k s wr => ∃ j N : Nat, j + k = L.length / 64 ∧ N ≤ L.length ∧ Hid (N + 64 * j = L.length) ∧ Rel w.heap.size p w wr L (Sha.kept m) (.slice A0 (Sha.rest m).length c0) (m.length + n) j N s)
  case atStart => exact ⟨0, L.length, by omega, by omega, by simp [Hid], hI⟩
  case round =>
    obtain ⟨j, N, hjk, hN, hNj, hJ⟩ := hrel
    obtain ⟨Aj, cj, rfl, hNc, hrj, hfj⟩ := hJ.all
    have hfj' := Lib.hid hfj
    clear hfj
    by_cases hlt : 64 ≤ N
    · obtain ⟨aj, rfl⟩ := reads_some hrj (by omega)
      obtain ⟨i0, hi, _, hi1, _⟩ := info_parts info5
      have hs1 : ∀ W : World, (Instr.slice 22 (.slice (some aj) N cj) none (some (.int .i64 64)) none).run Tryd.prog W = .ok (.slice (some aj) 64 cj) W := fun W => by
        have hu : Tryd.prog.underlying 22 = some (.slice (Tryd.prog.elem 22)) := by simp [Program.elem, Tryd.underlying22]
        have hel : Tryd.prog.elem 22 = 5 := by simp [Program.elem, Tryd.underlying22]
        rw [run_slice_h W 22 (some aj) N cj hu .i64 64 (by omega) (by omega), hel]
        simp [sizeOf, typeInfo, hi, hi1, sliced, Result.andThen, Addr.add]
      obtain ⟨A2, hs2, hr2⟩ := print_cut_of (P := Tryd.prog) eb (0 : UInt8) 22 5 .i64 Tryd.underlying22 hi hi1 (some aj) N cj 64 (by omega)
      have hfA2 : ∀ a, A2 = some a → w.heap.size ≤ a.block := by
        intro a e
        have hu : Tryd.prog.underlying 22 = some (.slice (Tryd.prog.elem 22)) := by simp [Program.elem, Tryd.underlying22]
        have hel : Tryd.prog.elem 22 = 5 := by simp [Program.elem, Tryd.underlying22]
        have h1 := hs2 w
        rw [run_slice_l w 22 (some aj) N cj hu .i64 ((64 : Nat) : Int) (Int.natCast_nonneg _) (by omega), hel] at h1
        simp [sizeOf, typeInfo, hi, hi1, sliced, Result.andThen] at h1
        have h2 := hfj'.out aj rfl
        rw [e] at h1
        by_cases hc : cj = 64
        · rw [if_pos hc] at h1; cases h1; exact h2
        · rw [if_neg hc] at h1; cases h1; unfold Addr.add; split <;> exact h2
      have hfA2' := Lib.hid hfA2
      have hs2' := fun W => hs2 W
      simp only [Int.cast_ofNat_Int] at hs2'
      have hX8 := Sha.comp_length (Sha.kept m) L (Sha.kept_length m) j
      obtain ⟨x0, x1, x2, x3, x4, x5, x6, x7, hXX⟩ := list8 _ hX8
      have hob := hJ.obj
      rw [hXX] at hob
      have c0' := hob.cell 0
      have c1' := hob.cell 1
      have c2' := hob.cell 2
      have c3' := hob.cell 3
      have c4' := hob.cell 4
      have c5' := hob.cell 5
      have c6' := hob.cell 6
      have c7' := hob.cell 7
      simp only [cellsOf, List.map_cons, List.map_nil, List.cons_append, List.nil_append, List.getElem?_cons_zero, List.getElem?_cons_succ] at c0' c1' c2' c3' c4' c5' c6' c7'
      have f0 := hob.free 0
      have f1 := hob.free 1
      have f2 := hob.free 2
      have f3 := hob.free 3
      have f4 := hob.free 4
      have f5 := hob.free 5
      have f6 := hob.free 6
      have f7 := hob.free 7
      have hXX' := Lib.hid hXX
      have hob' := Lib.hid (show Arr wr.drew p 59 _ from hJ.obj)
      have hX8' := Lib.hid hX8
      have hs2'' := Lib.hid hs2'
      have hr2' := Lib.hid hr2
      have hrj' := Lib.hid hrj
      have hp64 : ReadsOf eb 0 wr (some aj) 64 ((L.drop (64 * j)).take 64) := hrj.take_ 64 (by omega)
      have hp64' := Lib.hid (show ReadsOf eb 0 wr.drew (some aj) 64 ((L.drop (64 * j)).take 64) from hp64)
      have hTd := Lib.hid (show Tabs wr.drew from ⟨hJ.tabs.start, hJ.tabs.rounds, hJ.tabs.size⟩)
      have hJ' := Lib.hid hJ
      clear hs2 hs2' hr2 hXX hX8 hob hrj hp64 hJ hfA2
      go_wp2_with fail
      go_region_with (go_at_call 38; refine (Changed.changed_any [x0, x1, x2, x3, x4, x5, x6, x7] rfl (some aj) cj ((L.drop (64 * j)).take 64) wr.drew hTd.out hp64'.out (by omega)).mono ?_; rintro e w4 ⟨rfl, hb4⟩; have hst := put8_run (hob'.out.below hb4) hX8'.out (Sha.block [x0, x1, x2, x3, x4, x5, x6, x7] ((L.drop (64 * j)).take 64)) (Sha.block_length _ _ rfl))
      have hob4 := hob'.out.below hb4
      have hbut : But p w (put8 w4 p (Sha.block [x0, x1, x2, x3, x4, x5, x6, x7] ((L.drop (64 * j)).take 64))) := put8_but ((hJ'.out.but.drewN 1).trans (But.of_below hb4)) _
      have hobj := put8_arr hob4 hX8'.out (Sha.block [x0, x1, x2, x3, x4, x5, x6, x7] ((L.drop (64 * j)).take 64)) (Sha.block_length _ _ rfl)
      have hcomp : Sha.comp (Sha.kept m) L (j + 1) = Sha.block [x0, x1, x2, x3, x4, x5, x6, x7] ((L.drop (64 * j)).take 64) := by rw [Sha.comp, hXX'.out]
      rw [← hcomp] at hbut hobj ⊢
      have htb := hbut.tabs hT hold
      have hcN := hr2'.out wr (L.drop (64 * j)) hNc hrj'.out
      have hbw : But p wr (put8 w4 p (Sha.comp (Sha.kept m) L (j + 1))) := put8_but ((But.refl p wr).drewN 1 |>.trans (But.of_below hb4)) _
      have hall := reads_but hJ'.out.obj hbw hcN
      rw [List.drop_drop] at hall
      have hK : Rel w.heap.size p w (put8 w4 p (Sha.comp (Sha.kept m) L (j + 1))) L (Sha.kept m) (.slice A0 (Sha.rest m).length c0) (m.length + n) (j + 1) (N - 64) (.slice A2 (N - 64) (cj - 64)) :=
        ⟨hbut, hobj, ⟨A2, cj - 64, rfl, by omega, by rw [Nat.mul_add]; exact hall, hfA2'.out⟩, htb⟩
      clear hst hb4 hob4 hbut hobj hcomp htb hcN hbw hall c0' c1' c2' c3' c4' c5' c6' c7' f0 f1 f2 f3 f4 f5 f6 f7 hs1
      generalize put8 w4 p (Sha.comp (Sha.kept m) L (j + 1)) = w5 at hK ⊢
      have hs3 := hs2''.out
      have hNj' := hNj.out
      have hNj2 := Lib.hid hNj'
      clear hNj'
      go_wp2_with fail
      go_roundg (gk - 1)
      case measure => have := hNj2.out; omega
      case rel => exact ⟨j + 1, N - 64, by have := hNj2.out; omega, by omega, by show N - 64 + 64 * (j + 1) = L.length; have := hNj2.out; omega, hK⟩
    · have hob := hJ.obj
      have c8 : ∃ u, wr.cell? ⟨p, 8, none⟩ = some u := by
        rw [hob.cell]
        have := Sha.comp_length (Sha.kept m) L (Sha.kept_length m) j
        simp [cellsOf, this]
      obtain ⟨u8, c8⟩ := c8
      have f8 := hob.free 8
      have hres : Post p (m ++ l) w (.returned (.tuple #[])) (wr.setCell ⟨p, 8, none⟩ (.slice Aj N cj)) := by
        have hN' := hNj.out
        have hjd : j = L.length / 64 := by omega
        refine ⟨rfl, ⟨⟨Aj, cj, ?_, ?_, fun _ => hfj'.out⟩, hold⟩, hJ.but.setCell 8 _⟩
        · have h1 := hob.set 8 (.slice Aj N cj)
          have h2 : (cellsOf (Sha.comp (Sha.kept m) L j) (.slice A0 (Sha.rest m).length c0) (m.length + n)).set 8 (.slice Aj N cj) = cellsOf (Sha.kept (m ++ l)) (.slice Aj (Sha.rest (m ++ l)).length cj) (m ++ l).length := by
            have hlen : (Sha.rest (m ++ l)).length = N := by rw [Sha.rest_append, ← hLe'.out, List.length_drop]; omega
            rw [hlen, Sha.kept_append, ← hLe'.out, ← hjd, List.length_append, hln.out]
            obtain ⟨y0, y1, y2, y3, y4, y5, y6, y7, hY⟩ := list8 _ (Sha.comp_length (Sha.kept m) L (Sha.kept_length m) j)
            rw [hY]; simp [cellsOf]
          rwa [h2] at h1
        · have hlen : (Sha.rest (m ++ l)).length = N := by rw [Sha.rest_append, ← hLe'.out, List.length_drop]; omega
          rw [hlen, Sha.rest_append, ← hLe'.out, ← hjd]
          exact reads_but hob ((But.refl p wr).setCell 8 _) hrj
      have hres' := Lib.hid hres
      have hNj2 := Lib.hid hNj.out
      clear hres hob hJ hrj hNj
      go_wp2_with fail
      go_end0
      exact hres'.out

def CPost (m : List UInt8) (w : World) (e : Ending) (w' : World) : Prop :=
  e = .returned (.pointer (some ⟨w.heap.size, 0, none⟩)) ∧ HashBy (w.heap.size ≤ ·) w' w.heap.size m ∧ Below w.heap.size w w'

set_option maxRecDepth 100000 in
set_option maxHeartbeats 400000 in
theorem clone_any (p : Nat) (m : List UInt8) (w : World) (h : HashAt w p m) : Calls Tryd.prog 23 #[.pointer (some ⟨p, 0, none⟩)] w (CPost m w) := by
  obtain ⟨A0, c0, ho, hr0⟩ := h.ex
  have hold := h.old
  have hplt := h.lt
  have hrl := Sha.rest_lt m
  obtain ⟨a0, a1, a2, a3, a4, a5, a6, a7, h8⟩ := list8 (Sha.kept m) (Sha.kept_length m)
  rw [h8] at ho
  have h8' := Lib.hid h8
  have c0' := ho.cell 0
  have c1' := ho.cell 1
  have c2' := ho.cell 2
  have c3' := ho.cell 3
  have c4' := ho.cell 4
  have c5' := ho.cell 5
  have c6' := ho.cell 6
  have c7' := ho.cell 7
  have c8' := ho.cell 8
  have c9' := ho.cell 9
  simp only [cellsOf, List.map_cons, List.map_nil, List.cons_append, List.nil_append, List.getElem?_cons_zero, List.getElem?_cons_succ] at c0' c1' c2' c3' c4' c5' c6' c7' c8' c9'
  have hnew := Arr.new w 59 (cellsOf [a0, a1, a2, a3, a4, a5, a6, a7] (.slice A0 (Sha.rest m).length c0) m.length)
  have hbn : Below w.heap.size w (w.alloc (.cells (cellsOf [a0, a1, a2, a3, a4, a5, a6, a7] (.slice A0 (Sha.rest m).length c0) m.length).toArray 59)) := (Below.refl _ _).alloc (Nat.le_refl _) _
  replace hr0 := hr0.below hbn
  have c8n : (w.alloc (.cells (cellsOf [a0, a1, a2, a3, a4, a5, a6, a7] (.slice A0 (Sha.rest m).length c0) m.length).toArray 59)).cell? ⟨p, 8, none⟩ = some (.slice A0 (Sha.rest m).length c0) := by
    rw [hbn.cell (p := ⟨p, 8, none⟩) hplt]; exact c8'
  have hsz : (w.alloc (.cells (cellsOf [a0, a1, a2, a3, a4, a5, a6, a7] (.slice A0 (Sha.rest m).length c0) m.length).toArray 59)).heap.size = w.heap.size + 1 := by simp
  clear h8
  go_enter Tryd.func23, Tryd.ntmps23
  go_upto_region 2 with (fail)
  clear c0' c1' c2' c3' c4' c5' c6' c7' c8' c9'
  obtain ⟨w2, hw2⟩ : ∃ w2, w2 = w.alloc (.cells (cellsOf [a0, a1, a2, a3, a4, a5, a6, a7] (.slice A0 (Sha.rest m).length c0) m.length).toArray 59) := ⟨_, rfl⟩
  rw [← hw2] at hnew hbn hr0 c8n hsz
  have e2 : (w.alloc (.cells #[eu a0, eu a1, eu a2, eu a3, eu a4, eu a5, eu a6, eu a7, .slice A0 (Sha.rest m).length c0, .int .i64 (m.length : Int)] 59)) = w2 := hw2.symm
  rw [e2]
  clear e2 hw2
  have hszl := Nat.le_of_eq hsz
  have hszg := Nat.le_of_eq hsz.symm
  clear hsz
  go_wp2_with (at_builtin; (with_reducible refine print_append_row_of (w0 := w2) (o := ⟨some 11, _, _, _, _, _⟩) eb 0 w2.heap.size ?q1x0 (.const (.slice none 0 0)) (.tmp 10) 22 5 (.int .u8 0) 1 ?q1x1 Tryd.underlying22 info5 ?q1x2 ?q1x3 ?q1x4 (.slice none 0 0) [] (Sha.rest m) A0 (Sha.rest m).length c0 ?q1x5 ?q1x6 (own_nil _ _ _ _) hr0 (Below.refl _ _) ?q1x7 ?q1x8 ?q1x9); (case q1x0 => rfl); (case q1x1 => rfl); (case q1x2 => rfl); (case q1x3 => omega); (case q1x4 => exact fun _ => rfl); (case q1x5 => rfl); (case q1x6 => rfl); (case q1x7 => exact Nat.le_refl _); (case q1x8 => simp; omega); intro v1 w3 hown hbel _ _; simp only [List.nil_append] at hown; obtain ⟨A1, c1, rfl, _, hrd⟩ := own_reads_of_le (d := (0 : UInt8)) hown; have hfar := own_far hown; clear hown; have hnew3 := hnew.below hbel; have c83 : ∃ u, w3.cell? ⟨w.heap.size, 8, none⟩ = some u := ⟨_, by rw [hnew3.cell]; rfl⟩; obtain ⟨u83, c83⟩ := c83; have f83 := hnew3.free 8)
  go_ret
  refine ⟨rfl, ⟨⟨A1, c1, ?_, ?_, fun _ a e => by have := hfar a e; omega⟩, by omega⟩, ?_⟩
  · have h1 := hnew3.set 8 (.slice A1 (Sha.rest m).length c1)
    rw [h8'.out]
    exact h1
  · refine ⟨hrd.1, hrd.2.1, fun hn => ?_⟩
    obtain ⟨ad, e, hc⟩ := hrd.2.2 hn
    refine ⟨ad, e, fun j hj => ?_⟩
    rw [World.cell?_setCell_other]
    · exact hc j hj
    · intro heq
      have := hc j hj
      rw [← heq, hnew3.cell] at this
      exact cells_no_byte _ _ _ _ _ _ _ this
  · exact (hbn.trans (hbel.mono (by omega))).setCell (Nat.le_refl _) _

end Go.Proofs.YtcelojkecfiocaaDoor.Far
