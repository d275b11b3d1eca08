/- Hash.Clone: another hash that has taken the same; hash.Sum: the digest of bytes. Conditions: as those of the methods. -/
import Derived.Test.YtcelojkecfiocaaDoorHSum
namespace Go.Proofs.YtcelojkecfiocaaDoor.Clone
open Go.RowKit Go.Proofs.YtcelojkecfiocaaDoor.Bv Go.Proofs.YtcelojkecfiocaaDoor.Mem
open Go.Proofs.YtcelojkecfiocaaDoorW.PrintWords
open Go.Proofs.YtcelojkecfiocaaDoor.Changed (Tabs list8)
open Go.Proofs.YtcelojkecfiocaaDoor.Obj
open Go.Proofs.YtcelojkecfiocaaDoor.RefFilled (info5 Own)

def Post (m : List UInt8) (w : World) (e : Ending) (w' : World) : Prop :=
  e = .returned (.pointer (some ⟨w.heap.size, 0, none⟩)) ∧ HashAt w' w.heap.size m ∧ Below w.heap.size w w'

set_option maxRecDepth 100000 in
set_option maxHeartbeats 400000 in
theorem clone_any (p : Nat) (m : List UInt8) (w : World) (h : HashAt w p m) : Calls Tryd.prog 23 #[.pointer (some ⟨p, 0, none⟩)] w (Post m w) := by
  obtain ⟨A0, c0, ho, hr0⟩ := h.ex
  have hold := h.old
  have hplt := h.lt
  have hrl := Sha.rest_lt m
  obtain ⟨a0, a1, a2, a3, a4, a5, a6, a7, h8⟩ := list8 (Sha.kept m) (Sha.kept_length m)
  rw [h8] at ho
  have h8' := Lib.hid h8
  have c0' := ho.cell 0
  have c1' := ho.cell 1
  have c2' := ho.cell 2
  have c3' := ho.cell 3
  have c4' := ho.cell 4
  have c5' := ho.cell 5
  have c6' := ho.cell 6
  have c7' := ho.cell 7
  have c8' := ho.cell 8
  have c9' := ho.cell 9
  simp only [cellsOf, List.map_cons, List.map_nil, List.cons_append, List.nil_append, List.getElem?_cons_zero, List.getElem?_cons_succ] at c0' c1' c2' c3' c4' c5' c6' c7' c8' c9'
  have hnew := Arr.new w 59 (cellsOf [a0, a1, a2, a3, a4, a5, a6, a7] (.slice A0 (Sha.rest m).length c0) m.length)
  have hbn : Below w.heap.size w (w.alloc (.cells (cellsOf [a0, a1, a2, a3, a4, a5, a6, a7] (.slice A0 (Sha.rest m).length c0) m.length).toArray 59)) := (Below.refl _ _).alloc (Nat.le_refl _) _
  replace hr0 := hr0.below hbn
  have c8n : (w.alloc (.cells (cellsOf [a0, a1, a2, a3, a4, a5, a6, a7] (.slice A0 (Sha.rest m).length c0) m.length).toArray 59)).cell? ⟨p, 8, none⟩ = some (.slice A0 (Sha.rest m).length c0) := by
    rw [hbn.cell (p := ⟨p, 8, none⟩) hplt]; exact c8'
  have hsz : (w.alloc (.cells (cellsOf [a0, a1, a2, a3, a4, a5, a6, a7] (.slice A0 (Sha.rest m).length c0) m.length).toArray 59)).heap.size = w.heap.size + 1 := by simp
  clear h8
  go_enter Tryd.func23, Tryd.ntmps23
  go_upto_region 2 with (fail)
  clear c0' c1' c2' c3' c4' c5' c6' c7' c8' c9'
  obtain ⟨w2, hw2⟩ : ∃ w2, w2 = w.alloc (.cells (cellsOf [a0, a1, a2, a3, a4, a5, a6, a7] (.slice A0 (Sha.rest m).length c0) m.length).toArray 59) := ⟨_, rfl⟩
  rw [← hw2] at hnew hbn hr0 c8n hsz
  have e2 : (w.alloc (.cells #[eu a0, eu a1, eu a2, eu a3, eu a4, eu a5, eu a6, eu a7, .slice A0 (Sha.rest m).length c0, .int .i64 (m.length : Int)] 59)) = w2 := hw2.symm
  rw [e2]
  clear e2 hw2
  have hszl := Nat.le_of_eq hsz
  have hszg := Nat.le_of_eq hsz.symm
  clear hsz
  go_wp2_with (at_builtin; (with_reducible refine print_append_row_of (w0 := w2) (o := ⟨some 11, _, _, _, _, _⟩) eb 0 w2.heap.size ?q1x0 (.const (.slice none 0 0)) (.tmp 10) 22 5 (.int .u8 0) 1 ?q1x1 Tryd.underlying22 info5 ?q1x2 ?q1x3 ?q1x4 (.slice none 0 0) [] (Sha.rest m) A0 (Sha.rest m).length c0 ?q1x5 ?q1x6 (own_nil _ _ _ _) hr0 (Below.refl _ _) ?q1x7 ?q1x8 ?q1x9); (case q1x0 => rfl); (case q1x1 => rfl); (case q1x2 => rfl); (case q1x3 => omega); (case q1x4 => exact fun _ => rfl); (case q1x5 => rfl); (case q1x6 => rfl); (case q1x7 => exact Nat.le_refl _); (case q1x8 => simp; omega); intro v1 w3 hown hbel _ _; simp only [List.nil_append] at hown; obtain ⟨A1, c1, rfl, _, hrd⟩ := own_reads_of_le (d := (0 : UInt8)) hown; have hnew3 := hnew.below hbel; have c83 : ∃ u, w3.cell? ⟨w.heap.size, 8, none⟩ = some u := ⟨_, by rw [hnew3.cell]; rfl⟩; obtain ⟨u83, c83⟩ := c83; have f83 := hnew3.free 8)
  go_ret
  refine ⟨rfl, ⟨⟨A1, c1, ?_, ?_⟩, by omega⟩, ?_⟩
  · have h1 := hnew3.set 8 (.slice A1 (Sha.rest m).length c1)
    rw [h8'.out]
    exact h1
  · refine ⟨hrd.1, hrd.2.1, fun hn => ?_⟩
    obtain ⟨ad, e, hc⟩ := hrd.2.2 hn
    refine ⟨ad, e, fun j hj => ?_⟩
    rw [World.cell?_setCell_other]
    · exact hc j hj
    · intro heq
      have := hc j hj
      rw [← heq, hnew3.cell] at this
      exact cells_no_byte _ _ _ _ _ _ _ this
  · exact (hbn.trans (hbel.mono (by omega))).setCell (Nat.le_refl _) _

set_option maxRecDepth 100000 in
set_option maxHeartbeats 400000 in
theorem hashsum_any (A : Option Addr) (n c : Nat) (l : List UInt8) (w : World) (hT : Tabs w) (hr : ReadsOf eb 0 w A n l) (hn : n ≤ 140737488351232) :
    Calls Tryd.prog 15 #[.slice A n c] w (RefFilled.Post w (Sha.sha l)) := by
  have hl := hr.1
  go_enter Tryd.func15, Tryd.ntmps15
  go_wp2_with fail
  refine (new_any w hT).mono ?_
  rintro e w1 ⟨rfl, hh, hb⟩
  have hT1 := hT.below hb
  have hr1 := hr.below hb
  have hhl := hh.lt
  clear hr
  go_wp2_with fail
  refine (Write.write_any w.heap.size [] A n c l w1 hT1 hh hr1 hn (by simp; omega)).mono ?_
  rintro e w2 ⟨rfl, hh2, hb2⟩
  have hT2 := hb2.tabs hT1 hh.old
  have hbb := hb.trans (hb2.below (Nat.le_refl _) hb.size)
  simp only [List.nil_append] at hh2
  clear hb2 hh hr1
  go_wp2_with fail
  refine (HSum.sum_any w.heap.size l w2 hT2 hh2 (by omega)).mono ?_
  rintro e w3 ⟨v, rfl, hown, hb3⟩
  go_wp2_with fail
  go_ret
  exact ⟨v, rfl, own_weaken hown hbb.size, hbb.trans (hb3.mono hbb.size)⟩
end Go.Proofs.YtcelojkecfiocaaDoor.Clone
