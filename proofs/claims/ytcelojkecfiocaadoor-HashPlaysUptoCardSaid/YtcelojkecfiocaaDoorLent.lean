/- A copy of bytes with three marks behind it (Lent), and the look whether it is as it was (Back). Conditions: lengths below 2^47. -/
import Derived.Test.YtcelojkecfiocaaDoorObj
import Derived.Laws.CopyOwn
namespace Go.Proofs.YtcelojkecfiocaaDoor.Lent
open Go.RowKit Go.Proofs.YtcelojkecfiocaaDoor.Bv Go.Proofs.YtcelojkecfiocaaDoor.Mem
open Go.Proofs.YtcelojkecfiocaaDoorW.PrintWords
open Go.Proofs.YtcelojkecfiocaaDoor.Obj (But)

theorem infoB : (Tryd.prog.info? 5).map (fun i => (i.zero, i.size, i.bytes)) = some (some (.int .u8 0), 1, 1) := by kernel_rfl
/-- The bytes and the marks. -/
def marked (l : List UInt8) : List UInt8 := l ++ [201, 201, 201]
/-- The marks up to place q are laid. -/
def fill (l : List UInt8) (q : Nat) : List UInt8 := l ++ List.replicate (q - l.length) 201 ++ List.replicate (l.length + 3 - q) 0
theorem fill_step (l : List UInt8) (q : Nat) (h : l.length ≤ q) (h2 : q < l.length + 3) : ((fill l q).map eb).set q (eb 201) = (fill l (q + 1)).map eb := by
  obtain ⟨d, rfl⟩ : ∃ d, q = l.length + d := ⟨q - l.length, by omega⟩
  have e1 : l.length + 3 - (l.length + d) = (l.length + 3 - (l.length + d + 1)) + 1 := by omega
  unfold fill
  rw [e1, List.replicate_succ]
  have e2 : l.length + d - l.length = d := by omega
  have e3 : l.length + d + 1 - l.length = d + 1 := by omega
  rw [e2, e3]
  simp only [List.map_append, List.map_cons, List.map_replicate]
  rw [List.replicate_succ']
  rw [List.set_append_right _ _ (by simp)]
  simp
theorem fill_done (l : List UInt8) (q : Nat) (h : q = l.length + 3) : fill l q = marked l := by
  subst h
  unfold fill marked
  have e2 : l.length + 3 - l.length = 3 := by omega
  rw [e2, Nat.sub_self]
  simp
theorem fill_length (l : List UInt8) (q : Nat) (h : l.length ≤ q) (h2 : q ≤ l.length + 3) : (fill l q).length = l.length + 3 := by
  unfold fill
  simp
  omega

def Post (l : List UInt8) (w : World) (e : Ending) (w' : World) : Prop :=
  e = .returned (.slice (some ⟨w.heap.size, 0, none⟩) l.length (l.length + 3)) ∧ Arr w' w.heap.size 5 ((marked l).map eb) ∧ Below w.heap.size w w'

set_option maxRecDepth 100000 in
set_option maxHeartbeats 800000 in
theorem lent_any (A : Option Addr) (c : Nat) (l : List UInt8) (w : World) (hr : ReadsOf eb 0 w A l.length l) (hn : l.length ≤ 140737488351232) : Calls Tryd.prog 14 #[.slice A l.length c] w (Post l w) := by
  have hmk := print_make_int (P := Tryd.prog) 22 5 (.int .u8 0) 1 Tryd.underlying22 infoB rfl (by omega) ((l.length : Int) + 3) (by omega) (by omega)
  have e3 : ((l.length : Int) + 3).toNat = l.length + 3 := by omega
  rw [e3] at hmk
  go_enter Tryd.func14, Tryd.ntmps14
  go_upto_region 2 with (fail)
  have hz : madeCells #[Value.int .u8 0] (l.length + 3) = (List.replicate (l.length + 3) (eb 0)).toArray := by
    apply Array.ext'
    rw [toList_madeCells_one]
    rfl
  rw [hz]
  have hnew := Arr.new w 5 (List.replicate (l.length + 3) (eb 0))
  have hbn : Below w.heap.size w (w.alloc (.cells (List.replicate (l.length + 3) (eb 0)).toArray 5)) := (Below.refl _ _).alloc (Nat.le_refl _) _
  have hrn := hr.below hbn
  have hlt := hnew.lt
  have hg1 : w.heap.size ≤ w.heap.size := Nat.le_refl _
  generalize w.alloc (.cells (List.replicate (l.length + 3) (eb 0)).toArray 5) = w1 at hnew hbn hrn hlt ⊢
  obtain ⟨g, hg⟩ : ∃ g, g = w.heap.size := ⟨_, rfl⟩
  rw [← hg] at hnew hlt hg1 ⊢
  have hB : w.heap.size ≤ g := by omega
  have hg' := Lib.hid hg
  have hsrc : 0 < (l.map eb).length → (some (⟨g, 0, none⟩ : Addr) = some ⟨g, 0, none⟩) ∧ ∃ ad, A = some ad ∧ ∀ j v, (l.map eb)[j]? = some v → w1.cell? (ad.add j) = some v := by
    intro h0
    refine ⟨rfl, ?_⟩
    rw [List.length_map] at h0
    obtain ⟨ad, e, hc⟩ := hrn.2.2 h0
    refine ⟨ad, e, fun j v hv => ?_⟩
    obtain ⟨x, hx, rfl⟩ : ∃ x, l[j]? = some x ∧ eb x = v := by simpa using hv
    have hj : j < l.length := (List.getElem?_eq_some_iff.1 hx).1
    rw [hc j hj]
    simp [List.getD, hx]
  have hone : ∀ v ∈ l.map eb, v.oneCell' = true := by
    intro v hv
    obtain ⟨x, _, rfl⟩ := List.mem_map.1 hv
    rfl
  have hsrc' := Lib.hid hsrc
  have hone' := Lib.hid hone
  clear hmk hz e3 hg hrn hsrc hone
  go_wp2_with ((with_reducible refine wpList_copy_splice (o := ⟨some 11, _, _, _, _, _⟩) ?k0 (.tmp 9) (.tmp 10) 22 22 ?k1 5 Tryd.underlying22 ?k2 (some ⟨g, 0, none⟩) A (l.length + 3) (l.length + 3) l.length c ?k3 ?k4 g 0 (List.replicate (l.length + 3) (eb 0)) 5 ?k5 (l.map eb) ?k6 ?k9 ?k7 ?k10 w.heap.size w hbn hB ?k8); (case k0 => rfl); (case k1 => rfl); (case k2 => kernel_rfl); (case k3 => rfl); (case k4 => rfl); (case k5 => exact hnew); (case k6 => simp); (case k7 => simp); (case k9 => exact fun h => ⟨rfl, (hsrc'.out h).2⟩); (case k10 => exact hone'.out); intro w2 hx2 hb2; clear hnew hbn)
  have hn2 : Arr w2 g 5 ((fill l l.length).map eb) := by
    have h1 : w2.heap[g]? = _ := hx2
    unfold Arr
    rw [h1]
    simp [splice, fill]
  have hg2 := Lib.hid hg1
  go_loopg [4] 3 (fun k v wr => ∃ q : Nat, q + k = l.length + 3 ∧ v = .int .i64 (q : Int) ∧ l.length ≤ q ∧ Arr wr g 5 ((fill l q).map eb) ∧ Below w.heap.size w wr)
  case atStart => exact ⟨l.length, by omega, rfl, by omega, hn2, hb2⟩
  case round =>
    obtain ⟨q, hqk, rfl, hlq, hA, hb⟩ := hrel
    by_cases hq : q < l.length + 3
    · have hcq : wr.cell? ⟨g, q, none⟩ = ((fill l q).map eb)[q]? := hA.cell q
      have hex : ∃ u, wr.cell? ⟨g, q, none⟩ = some u := by
        rw [hcq]
        refine ⟨((fill l q).map eb)[q]'(by rw [List.length_map, fill_length l q hlq (by omega)]; exact hq), ?_⟩
        exact List.getElem?_eq_getElem _
      obtain ⟨u, hu⟩ := hex
      have hf := hA.free q
      have hst := hA.set q (eb 201)
      rw [fill_step l q hlq hq] at hst
      have hbs := hb.setCell (p := ⟨g, q, none⟩) hB (eb 201)
      have hst' := Lib.hid hst
      have hbs' := Lib.hid hbs
      clear hcq hA hb hst hbs
      go_wp2_with fail
      go_roundg (gk - 1)
      case measure => omega
      case rel => exact ⟨q + 1, by omega, by simp, by omega, hst'.out, hbs'.out⟩
    · obtain rfl : q = l.length + 3 := by omega
      rw [fill_done l _ rfl] at hA
      have hA' := Lib.hid hA
      clear hA
      go_wp2_with fail
      go_ret
      refine ⟨?_, ?_, hb⟩
      · rw [← hg'.out]; rfl
      · rw [← hg'.out]; exact hA'.out

structure Rel (g : Nat) (w wr : World) (l : List UInt8) (q : Nat) : Prop where
  but : But g w wr
  row : ∃ J : List Value, J.length = q ∧ Arr wr g 5 (J ++ ((marked l).drop q).map eb)

theorem marked_length (l : List UInt8) : (marked l).length = l.length + 3 := by simp [marked]
theorem marked_low (l : List UInt8) (q : Nat) (h : q < l.length) : ((marked l).drop q) = Sha.b8 l q :: (marked l).drop (q + 1) := by
  have h1 : q < (marked l).length := by rw [marked_length]; omega
  rw [List.drop_eq_getElem_cons h1]
  congr 1
  simp [marked, Sha.b8, h]
theorem marked_high (l : List UInt8) (q : Nat) (h : l.length ≤ q) (h2 : q < l.length + 3) : ((marked l).drop q) = 201 :: (marked l).drop (q + 1) := by
  have h1 : q < (marked l).length := by rw [marked_length]; omega
  rw [List.drop_eq_getElem_cons h1]
  congr 1
  have : q = l.length ∨ q = l.length + 1 ∨ q = l.length + 2 := by omega
  rcases this with rfl | rfl | rfl <;> simp [marked]

def BackPost (g : Nat) (w : World) (e : Ending) (w' : World) : Prop := e = .returned (.bool true) ∧ But g w w'

theorem reads_but {w w' : World} {g : Nat} {A : Option Addr} {n : Nat} {l : List UInt8} (hb : But g w w') (hA : ∀ a, A = some a → 0 < n → a.block ≠ g) (h : ReadsOf eb 0 w A n l) : ReadsOf eb 0 w' A n l := by
  refine ⟨h.1, h.2.1, fun hn => ?_⟩
  obtain ⟨ad, e, hc⟩ := h.2.2 hn
  refine ⟨ad, e, fun j hj => ?_⟩
  have hcj := hc j hj
  have hl := World.block_lt_of_cell? w _ hcj
  have hne := hA ad e hn
  rw [← hcj]
  refine World.cell?_of_block (hb.block _ hl ?_)
  unfold Addr.add
  split <;> exact hne

set_option maxRecDepth 100000 in
set_option maxHeartbeats 800000 in
theorem back_any (g : Nat) (A : Option Addr) (c : Nat) (l : List UInt8) (w : World) (hg : Arr w g 5 ((marked l).map eb)) (hr : ReadsOf eb 0 w A l.length l) (hA : ∀ a, A = some a → 0 < l.length → a.block ≠ g) (hn : l.length ≤ 140737488351232) :
    Calls Tryd.prog 16 #[.slice (some ⟨g, 0, none⟩) l.length (l.length + 3), .slice A l.length c] w (BackPost g w) := by
  have hI : Rel g w w l 0 := ⟨But.refl g w, [], rfl, by simpa using hg⟩
  clear hg
  go_enter Tryd.func16, Tryd.ntmps16
  go_wp2_with fail
  go_loopg [6, 7, 8] (l.length + 3) (fun k s6 s7 s8 wr => ∃ q : Nat, q + k = l.length + 3 ∧ s6 = .bool true ∧ s7 = .int .i64 (q : Int) ∧ Rel g w wr l q)
  case atStart => exact ⟨0, by omega, rfl, rfl, hI⟩
  case round =>
    obtain ⟨q, hqk, rfl, rfl, hb, J, hJ, hrow⟩ := hrel
    by_cases hq : q < l.length
    · have hrw := reads_but hb hA hr
      obtain ⟨ad, e⟩ := reads_some hrw (by omega)
      subst e
      have hcb := reads_cell hrw q hq
      rw [marked_low l q hq] at hrow
      have hcq : wr.cell? ⟨g, q, none⟩ = some (eb (Sha.b8 l q)) := by rw [hrow.cell]; simp [hJ]
      have hfq := hrow.free q
      have hst : Rel g w (wr.setCell ⟨g, q, none⟩ (.int .u8 (bits .xor .u8 (tb (Sha.b8 l q)) 33))) l (q + 1) := by
        refine ⟨hb.setCell q _, J ++ [.int .u8 (bits .xor .u8 (tb (Sha.b8 l q)) 33)], by simp [hJ], ?_⟩
        have h1 := hrow.set q (.int .u8 (bits .xor .u8 (tb (Sha.b8 l q)) 33))
        rw [List.map_cons, set_mid J _ _ _ q hJ] at h1
        simpa using h1
      have hst' := Lib.hid hst
      clear hst hrow hb hrw
      go_wp2_with fail
      go_roundg (gk - 1)
      case measure => omega
      case rel => exact ⟨q + 1, by omega, rfl, by simp, hst'.out⟩
    · by_cases hq3 : q < l.length + 3
      · rw [marked_high l q (by omega) hq3] at hrow
        have hcq : wr.cell? ⟨g, q, none⟩ = some (.int .u8 201) := by rw [hrow.cell]; simp [hJ, tb]
        have hfq := hrow.free q
        have hst : Rel g w (wr.setCell ⟨g, q, none⟩ (.int .u8 (bits .xor .u8 201 33))) l (q + 1) := by
          refine ⟨hb.setCell q _, J ++ [.int .u8 (bits .xor .u8 201 33)], by simp [hJ], ?_⟩
          have h1 := hrow.set q (.int .u8 (bits .xor .u8 201 33))
          rw [List.map_cons, set_mid J _ _ _ q hJ] at h1
          simpa using h1
        have e0 : bits .xor .u8 201 33 = 232 := by kernel_rfl
        rw [e0] at hst
        have hst' := Lib.hid hst
        clear hst hrow hb
        go_wp2_with fail
        go_roundg (gk - 1)
        case measure => omega
        case rel => exact ⟨q + 1, by omega, rfl, by simp, hst'.out⟩
      · have hb' := Lib.hid hb
        clear hb hrow
        go_wp2_with fail
        go_ret
        exact ⟨rfl, hb'.out⟩
end Go.Proofs.YtcelojkecfiocaaDoor.Lent
