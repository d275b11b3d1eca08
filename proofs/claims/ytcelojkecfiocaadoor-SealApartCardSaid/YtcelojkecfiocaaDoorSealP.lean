/- Seals in plain words, and seal.Seal. Conditions: lengths below 2^47. -/
import Derived.Test.YtcelojkecfiocaaDoorMac
import Derived.Test.YtcelojkecfiocaaDoorRefMac
namespace Go.Proofs.YtcelojkecfiocaaDoor.SealP
open Go.RowKit Go.Proofs.YtcelojkecfiocaaDoor.Bv Go.Proofs.YtcelojkecfiocaaDoor.Mem
open Go.Proofs.YtcelojkecfiocaaDoorW.PrintWords
open Go.Proofs.YtcelojkecfiocaaDoor.Changed (Tabs RTabs)
open Go.Proofs.YtcelojkecfiocaaDoor.Pad (sb sb_length)
open Go.Proofs.YtcelojkecfiocaaDoor.Mac (mac mac_length MacPost)
open Go.Proofs.YtcelojkecfiocaaDoor.RefFilled (info5)
open Go.Proofs.YtcelojkecfiocaaDoor.Str

/-- An answer of a row of bytes and a number. -/
def Ans (r : List UInt8) (c : Int) (w : World) (e : Ending) (w' : World) : Prop :=
  ∃ v, e = .returned (.tuple #[v, .int .i64 c]) ∧ w'.ownsRow w.heap.size 5 1 v r.length (encs eb r) ∧ Below w.heap.size w w'
def macP (k l : List UInt8) : List UInt8 × Int := if k.length ≤ 200 then (mac k l, 0) else ([], 2)
def sealed (k l : List UInt8) : List UInt8 := l ++ (mac k l).take 16
theorem sealed_length (k l : List UInt8) : (sealed k l).length = l.length + 16 := by
  unfold sealed
  rw [List.length_append, List.length_take, mac_length]
  rfl
def sealP (k l : List UInt8) : List UInt8 × Int := if k.length ≤ 200 then (sealed k l, 0) else ([], 2)
def openP (k l : List UInt8) : List UInt8 × Int :=
  if k.length ≤ 200 then (if 16 ≤ l.length then (if sealed k (l.take (l.length - 16)) = l then (l.take (l.length - 16), 0) else ([], 41)) else ([], 40)) else ([], 2)

theorem str_list (l : List UInt8) : (str l).toList = l := by rw [ByteArray.toList_eq]; rfl
theorem str_same {a b : List UInt8} (h : a = b) : ((str a).toList == (str b).toList) = true := by rw [str_list, str_list, h]; exact beq_self_eq_true _
theorem str_other {a b : List UInt8} (h : a ≠ b) : ((str a).toList == (str b).toList) = false := by rw [str_list, str_list]; exact beq_false_of_ne h
theorem own_none (W : World) (B : Nat) : W.ownsRow B 5 1 (.slice none 0 0) ([] : List UInt8).length (encs eb []) := own_nil W B 5 1
theorem mac_ans {k l : List UInt8} {w : World} {e : Ending} {w' : World} (h : MacPost k l w e w') : Ans (macP k l).1 (macP k l).2 w e w' := by
  unfold macP
  rcases h with ⟨hk, v, he, ho, hb⟩ | ⟨hk, he, hb⟩
  · rw [if_pos hk]; exact ⟨v, he, ho, hb⟩
  · rw [if_neg (by omega)]; exact ⟨_, he, own_none _ _, hb⟩

set_option maxRecDepth 100000 in
set_option maxHeartbeats 1600000 in
theorem seal_any (s : ByteArray) (A : Option Addr) (n c : Nat) (l : List UInt8) (w : World) (hT : Tabs w) (hs : s.size ≤ 140737488351232) (hr : ReadsOf eb 0 w A n l) (hn : n ≤ 140737488351232) :
    Calls Tryd.prog 28 #[.string s, .slice A n c] w (Ans (sealP (sb s) l).1 (sealP (sb s) l).2 w) := by
  obtain rfl := hr.1
  have hsl := sb_length s
  go_enter Tryd.func28, Tryd.ntmps28
  go_wp2_with fail
  refine (Mac.may_any s w (by omega)).mono ?_
  rintro e w1 ⟨rfl, rfl⟩
  by_cases h : s.size ≤ 200
  · have hp : sealP (sb s) l = (sealed (sb s) l, 0) := by rw [sealP, if_pos (by omega)]
    have hp' := Lib.hid hp
    clear hp
    rw [decide_eq_true h]
    go_upto_region 4 with (at_builtin; (with_reducible refine print_append_row_of (w0 := w) (o := ⟨some 11, _, _, _, _, _⟩) eb 0 w.heap.size ?q1x0 (.const (.slice none 0 0)) (.tmp 10) 22 5 (.int .u8 0) 1 ?q1x1 Tryd.underlying22 info5 ?q1x2 ?q1x3 ?q1x4 (.slice none 0 0) [] l A l.length c ?q1x5 ?q1x6 (own_nil _ _ _ _) hr (Below.refl _ _) ?q1x7 ?q1x8 ?q1x9); (case q1x0 => rfl); (case q1x1 => rfl); (case q1x2 => rfl); (case q1x3 => omega); (case q1x4 => exact fun _ => rfl); (case q1x5 => rfl); (case q1x6 => rfl); (case q1x7 => exact Nat.le_refl _); (case q1x8 => simp; omega); intro v1 w1 hown hbel _ _; simp only [List.nil_append] at hown)
    have hr1 := hr.below hbel
    have hT1 := hT.below hbel
    have hS1 := hbel.size
    clear hr hT
    go_wp2_with (first | (go_at_call 40; refine (Mac.mac_any s A l.length c l w1 hT1 hs hr1 hn).mono ?_; rintro e w2 ⟨v2, rfl, ho2, hb2⟩; have hown2 := pw_own_below hown hb2; have hbel2 := hbel.trans (hb2.mono hS1); obtain ⟨M, hM⟩ : ∃ M, M = mac (sb s) l := ⟨_, rfl⟩; rw [← hM] at ho2; have hMl : M.length = 32 := (by rw [hM]; exact mac_length _ _); obtain ⟨A2, c2, rfl, hc2, hr2⟩ := own_reads_of_le (d := (0 : UInt8)) ho2; obtain ⟨hp1, hp2⟩ := part_take A2 c2 M 16 16 rfl (by omega) hc2; have hr3 := hp2 w2 hr2; have hM' := Lib.hid hM; have hMl' := Lib.hid hMl; clear hr1 hT1 hown hbel ho2 hb2 hr2 hp2 hM hMl) | (at_builtin; (with_reducible refine print_append_row_of (w0 := w) (o := ⟨some 17, _, _, _, _, _⟩) eb 0 w.heap.size ?q2x0 (.tmp 12) (.tmp 16) 22 5 (.int .u8 0) 1 ?q2x1 Tryd.underlying22 info5 ?q2x2 ?q2x3 ?q2x4 v1 l (M.take 16) A2 16 c2 ?q2x5 ?q2x6 hown2 hr3 hbel2 ?q2x7 ?q2x8 ?q2x9); (case q2x0 => rfl); (case q2x1 => rfl); (case q2x2 => rfl); (case q2x3 => omega); (case q2x4 => exact fun _ => rfl); (case q2x5 => rfl); (case q2x6 => rfl); (case q2x7 => exact hbel2.size); (case q2x8 => omega); intro v3 w3 hown3 hbel3 _ _))
    go_ret2
    rw [hM'.out] at hown3
    unfold Ans
    rw [hp'.out]
    exact ⟨v3, rfl, hown3, hbel3⟩
  · have hp : sealP (sb s) l = ([], 2) := by rw [sealP, if_neg (by omega)]
    have hp' := Lib.hid hp
    clear hp
    rw [decide_eq_false h]
    go_wp2_with fail
    go_ret2
    unfold Ans
    rw [hp'.out]
    exact ⟨_, rfl, own_none _ _, Below.refl _ _⟩
end Go.Proofs.YtcelojkecfiocaaDoor.SealP
