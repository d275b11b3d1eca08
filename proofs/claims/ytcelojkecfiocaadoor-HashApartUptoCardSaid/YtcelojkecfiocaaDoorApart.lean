/- HashApart: what a hash takes is not seen by its clone, nor the other way round. -/
import Derived.Test.YtcelojkecfiocaaDoorAwake
import Derived.Test.YtcelojkecfiocaaDoorStep
namespace Go.Proofs.YtcelojkecfiocaaDoor.Apart
open Go.RowKit Go.Proofs.YtcelojkecfiocaaDoor.Bv Go.Proofs.YtcelojkecfiocaaDoor.Mem
open Go.Proofs.YtcelojkecfiocaaDoorW.PrintWords
open Go.Proofs.YtcelojkecfiocaaDoor.Changed (Tabs)
open Go.Proofs.YtcelojkecfiocaaDoor.Obj
open Go.Proofs.YtcelojkecfiocaaDoor.Str

def Post (w : World) (e : Ending) (w' : World) : Prop := e = .returned (.bool true) ∧ Below w.heap.size w w'
/-- What the region keeps: both digests read, the arguments, the tables, the rest of memory. -/
structure K (w W : World) (A0 A1 A2 Ax Ay : Option Addr) (l0 l1 l2 D1 D2 : List UInt8) : Prop where
  below : Below w.heap.size w W
  tabs : Tabs W
  r0 : ReadsOf eb 0 W A0 l0.length l0
  r1 : ReadsOf eb 0 W A1 l1.length l1
  r2 : ReadsOf eb 0 W A2 l2.length l2
  x : ReadsOf eb 0 W Ax 32 D1
  y : ReadsOf eb 0 W Ay 32 D2
theorem K.on {w W W' : World} {A0 A1 A2 Ax Ay : Option Addr} {l0 l1 l2 D1 D2 : List UInt8} (h : K w W A0 A1 A2 Ax Ay l0 l1 l2 D1 D2) (hb : Below W.heap.size W W') : K w W' A0 A1 A2 Ax Ay l0 l1 l2 D1 D2 :=
  ⟨h.below.trans (hb.mono h.below.size), h.tabs.below hb, h.r0.below hb, h.r1.below hb, h.r2.below hb, h.x.below hb, h.y.below hb⟩
theorem own_empty (W : World) : (W.alloc (.cells #[] 5)).ownsRow W.heap.size 5 1 (.slice (some ⟨W.heap.size, 0, none⟩) 0 0) ([] : List UInt8).length (encs eb []) := World.ownsRow_made W #[] 0 (Nat.le_refl _) (Nat.zero_le _) rfl
theorem grown_below {B : Nat} {w w' : World} {v : Value} {e : TypeId} {size n : Nat} {xs : List Value} (ho : w.ownsRow B e size v n xs) (hg : w.grownBy w' v.ownBlock) (hB : B ≤ w.heap.size) : Below B w w' :=
  (Below.refl B w).grown hg hB (fun k e => (ho.lt k e).1)

set_option maxRecDepth 100000 in
set_option maxHeartbeats 8000000 in
theorem apart_any (A0 A1 A2 : Option Addr) (c0 c1 c2 : Nat) (l0 l1 l2 : List UInt8) (w : World) (hT : Tabs w) (hr0 : ReadsOf eb 0 w A0 l0.length l0) (hr1 : ReadsOf eb 0 w A1 l1.length l1) (hr2 : ReadsOf eb 0 w A2 l2.length l2)
    (hn : l0.length + l1.length + l2.length ≤ 140737488351232) : Calls Tryd.prog 6 #[.slice A0 l0.length c0, .slice A1 l1.length c1, .slice A2 l2.length c2] w (Post w) := by
  go_enter Tryd.func6, Tryd.ntmps6
  go_wp2_with fail
  refine (Awake.awake_any w hT).mono ?_
  rintro e w1 ⟨rfl, hb1⟩
  have hT1 := hT.below hb1
  go_wp2_with fail
  refine (new_any w1 hT1).mono ?_
  rintro e w2 ⟨rfl, hh, hb2⟩
  have hT2 := hT1.below hb2
  have hp := hb1.size
  have hlt := hh.lt
  replace hb2 := hb1.trans (hb2.mono hp)
  generalize w1.heap.size = p at hh hp hlt ⊢
  clear hb1 hT1
  go_wp2_with fail
  refine (Write.write_any p [] A0 l0.length c0 l0 w2 hT2 hh (hr0.below hb2) (by omega) (by simp; omega)).mono ?_
  rintro e w3 ⟨rfl, hh3, hb3⟩
  simp only [List.nil_append] at hh3
  have hT3 := hb3.tabs hT2 hh.old
  have hB3 := hb2.trans (hb3.below hp hb2.size)
  have hs3 := hb3.size
  clear hh hb3 hT2 hb2
  go_wp2_with fail
  refine (Clone.clone_any p l0 w3 hh3).mono ?_
  rintro e w4 ⟨rfl, hg4, hb4⟩
  have hh4 := hh3.below hb4
  have hT4 := hT3.below hb4
  have hB4 := hB3.trans (hb4.mono hB3.size)
  have hpq : p ≠ w3.heap.size := by omega
  have hq : w.heap.size ≤ w3.heap.size := hB3.size
  generalize w3.heap.size = q at hg4 hpq hq ⊢
  clear hh3 hb4 hT3 hB3
  go_wp2_with fail
  refine (Write.write_any p l0 A1 l1.length c1 l1 w4 hT4 hh4 (hr1.below hB4) (by omega) (by omega)).mono ?_
  rintro e w5 ⟨rfl, hh5, hb5⟩
  have hg5 := hg4.other hh4 hb5 (Ne.symm hpq)
  have hT5 := hb5.tabs hT4 hh4.old
  have hB5 := hB4.trans (hb5.below hp hB4.size)
  clear hg4 hh4 hb5 hT4 hB4
  go_wp2_with fail
  refine (Write.write_any q l0 A2 l2.length c2 l2 w5 hT5 hg5 (hr2.below hB5) (by omega) (by omega)).mono ?_
  rintro e w6 ⟨rfl, hg6, hb6⟩
  have hh6 := hh5.other hg5 hb6 hpq
  have hT6 := hb6.tabs hT5 hg5.old
  have hB6 := hB5.trans (hb6.below hq hB5.size)
  clear hh5 hg5 hb6 hT5 hB5
  go_wp2_with fail
  refine (HSum.sum_any p (l0 ++ l1) w6 hT6 hh6 (by simp; omega)).mono ?_
  rintro e w7 ⟨x, rfl, hx, hb7⟩
  have hT7 := hT6.below hb7
  have hg7 := hg6.below hb7
  have hB7 := hB6.trans (hb7.mono hB6.size)
  clear hh6 hg6 hb7 hT6 hB6
  obtain ⟨D1, hD1⟩ : ∃ D, D = Sha.sha (l0 ++ l1) := ⟨_, rfl⟩
  have hDl1 : D1.length = 32 := by rw [hD1]; exact Sha.sha_length _
  rw [← hD1] at hx
  obtain ⟨Ax, cx, rfl, _, hrx⟩ := own_reads_of_le (d := (0 : UInt8)) hx
  rw [hDl1] at hrx ⊢
  clear hx
  go_wp2_with fail
  refine (HSum.sum_any q (l0 ++ l2) w7 hT7 hg7 (by simp; omega)).mono ?_
  rintro e w8 ⟨y, rfl, hy, hb8⟩
  have hT8 := hT7.below hb8
  have hrx8 := hrx.below hb8
  have hB8 := hB7.trans (hb8.mono hB7.size)
  clear hg7 hb8 hT7 hB7 hrx
  obtain ⟨D2, hD2⟩ : ∃ D, D = Sha.sha (l0 ++ l2) := ⟨_, rfl⟩
  have hDl2 : D2.length = 32 := by rw [hD2]; exact Sha.sha_length _
  rw [← hD2] at hy
  obtain ⟨Ay, cy, rfl, _, hry⟩ := own_reads_of_le (d := (0 : UInt8)) hy
  rw [hDl2] at hry ⊢
  clear hy
  have k8 := Lib.hid (show K w w8.drew A0 A1 A2 Ax Ay l0 l1 l2 D1 D2 from K.on ⟨hB8, hT8, hr0.below hB8, hr1.below hB8, hr2.below hB8, hrx8, hry⟩ (Below.refl _ _).drew)
  have hD1' := Lib.hid hD1.symm
  have hD2' := Lib.hid hD2.symm
  have hE1' := Lib.hid hDl1
  have hE2' := Lib.hid hDl2
  clear hT8 hrx8 hry hB8 hD1 hD2 hDl1 hDl2 hr0 hr1 hr2 hT
  go_upto_region 13 with (fail)
  refine wp_region_held_drew (S := (fun w' => (convert 22 9 (.slice Ax 32 cx)).run Tryd.prog w' = .ok (.string (str D1)) w' ∧ (convert 22 9 (.slice Ay 32 cy)).run Tryd.prog w' = .ok (.string (str D2)) w')) (by kernel_rfl) ?_ (fun hHeld => ?_)
  · exact ⟨string_of (c := cx) k8.out.x, string_of (c := cy) k8.out.y⟩
  generalize w8.drew = W0 at k8 hHeld ⊢
  refine wpAnyH_take (i := 0) (oi := ⟨some 37, _, _, _, _, _⟩) (v := ?v1) rfl (by kernel_rfl) (by kernel_rfl) (by kernel_rfl) (fun _ _ _ h => h) (Or.inl ⟨by rfl, ?y1⟩) (by assumption) ?r1
  case y1 => (intro w hSw; (try dsimp only at hSw); first | (go_simp; done) | (go_simp; with_reducible rfl))
  case' r1 => (simp only [Act.put, List.setIfInBounds_toArray, List.set_cons_zero, List.set_cons_succ])
  refine wpAnyH_take (i := 1) (oi := ⟨some 38, _, _, _, _, _⟩) (v := ?v2) rfl (by kernel_rfl) (by kernel_rfl) (by kernel_rfl) (fun _ _ _ h => h) (Or.inl ⟨by rfl, ?y2⟩) (by assumption) ?r2
  case y2 => (intro w hSw; (try dsimp only at hSw); first | (go_simp; done) | (go_simp; with_reducible rfl))
  case' r2 => (simp only [Act.put, List.setIfInBounds_toArray, List.set_cons_zero, List.set_cons_succ])
  refine wpAnyH_take (i := 3) (oi := ⟨some 40, _, _, _, _, _⟩) (v := ?v3) rfl (by kernel_rfl) (by kernel_rfl) (by kernel_rfl) (fun _ _ _ h => h) (Or.inl ⟨by rfl, ?y3⟩) (by assumption) ?r3
  case y3 => (intro w hSw; (try dsimp only at hSw); first | (go_simp; done) | (go_simp; with_reducible rfl))
  case' r3 => (simp only [Act.put, List.setIfInBounds_toArray, List.set_cons_zero, List.set_cons_succ])
  refine wpAnyH_take (i := 5) (oi := ⟨some 42, _, _, _, _, _⟩) (v := ?v4) rfl (by kernel_rfl) (by kernel_rfl) (by kernel_rfl) (fun _ _ _ h => h) (Or.inl ⟨by rfl, ?y4⟩) (by assumption) ?r4
  case y4 => (intro w hSw; (try dsimp only at hSw); first | (go_simp; done) | (go_simp; with_reducible rfl))
  case' r4 => (simp only [Act.put, List.setIfInBounds_toArray, List.set_cons_zero, List.set_cons_succ])
  refine wpAnyH_ready (rs := [2]) (by kernel_rfl) (by simp) ?_
  refine AllReadyH.cons (o := ⟨some 39, _, _, _, _, _⟩) rfl (fun K hK => ?_) AllReadyH.nil
  go_simp
  have ho1 := own_empty W0; have hb1a : Below W0.heap.size W0 (W0.alloc (.cells #[] 5)) := (Below.refl _ W0).alloc (Nat.le_refl _) (.cells #[] 5); have k1a := Lib.hid (k8.out.on hb1a)
  refine hK.out _ _ ?_ (fun hHeld => ?_)
  · exact ⟨string_of (c := cx) k1a.out.x, string_of (c := cy) k1a.out.y⟩
  clear hK K
  try simp only [Act.put, List.setIfInBounds_toArray, List.set_cons_zero, List.set_cons_succ]
  generalize hW1 : W0.alloc (.cells #[] 5) = W1a at ho1 k1a hb1a hHeld ⊢
  clear hW1
  have hb1h := Lib.hid hb1a
  have ho1h := Lib.hid ho1
  clear hb1a ho1
  refine wpAnyH_ready (rs := [4]) (by kernel_rfl) (by simp) ?_
  refine AllReadyH.cons (o := ⟨some 41, _, _, _, _, _⟩) rfl (fun K hK => ?_) AllReadyH.nil
  refine Step.step_append (by rfl) (.tmp 39) (.tmp 40) rfl W0.heap.size (.slice (some ⟨W0.heap.size, 0, none⟩) 0 0) [] l0 A0 l0.length c0 rfl rfl ho1h.out k1a.out.r0 hb1h.out.size (by simp; omega) ?_; intro v1b W1b ho1b hg1b; have hb1b := Lib.hid (hb1h.out.trans (grown_below ho1h.out hg1b hb1h.out.size)); have k1b := Lib.hid (k8.out.on hb1b.out)
  refine hK.out _ _ ?_ (fun hHeld => ?_)
  · exact ⟨string_of (c := cx) k1b.out.x, string_of (c := cy) k1b.out.y⟩
  clear hK K
  try simp only [Act.put, List.setIfInBounds_toArray, List.set_cons_zero, List.set_cons_succ]
  rw [List.nil_append] at ho1b
  have ho1c := Lib.hid ho1b
  clear ho1b hg1b
  refine wpAnyH_ready (rs := [6]) (by kernel_rfl) (by simp) ?_
  refine AllReadyH.cons (o := ⟨some 43, _, _, _, _, _⟩) rfl (fun K hK => ?_) AllReadyH.nil
  refine Step.step_append (by rfl) (.tmp 41) (.tmp 42) rfl W0.heap.size v1b l0 l1 A1 l1.length c1 rfl rfl ho1c.out k1b.out.r1 hb1b.out.size (by omega) ?_; intro v1d W1d ho1d hg1d; have hb1d := Lib.hid (hb1b.out.trans (grown_below ho1c.out hg1d hb1b.out.size)); have k1d := Lib.hid (k8.out.on hb1d.out); obtain ⟨A1d, c1d, rfl, _, hr1d⟩ := own_reads_of_le (d := (0 : UInt8)) ho1d; rw [List.length_append] at hr1d; have hr1e := Lib.hid hr1d; clear hr1d ho1d hg1d
  refine hK.out _ _ ?_ (fun hHeld => ?_)
  · exact ⟨string_of (c := cx) k1d.out.x, string_of (c := cy) k1d.out.y⟩
  clear hK K
  try simp only [Act.put, List.setIfInBounds_toArray, List.set_cons_zero, List.set_cons_succ]
  refine wpAnyH_ready (rs := [7]) (by kernel_rfl) (by simp) ?_
  refine AllReadyH.cons (o := ⟨some 44, _, _, _, _, _⟩) rfl (fun K hK => ?_) AllReadyH.nil
  go_simp
  go_at_call 15; refine (Clone.hashsum_any A1d (l0.length + l1.length) c1d (l0 ++ l1) W1d k1d.out.tabs hr1e.out (by omega)).mono ?_; rintro e W1f ⟨v1f, rfl, ho1f, hb1f⟩; rw [hD1'.out, hE1'.out] at ho1f; obtain ⟨A1f, c1f, rfl, _, hr1f⟩ := own_reads_of_le (d := (0 : UInt8)) ho1f; have hs1f := string_of (c := c1f) hr1f; have k1f := Lib.hid (k1d.out.on hb1f); clear ho1f hb1f; go_wp2_with fail
  refine hK.out _ _ ?_ (fun hHeld => ?_)
  · exact ⟨string_of (c := cx) k1f.out.x, string_of (c := cy) k1f.out.y⟩
  clear hK K
  try simp only [Act.put, List.setIfInBounds_toArray, List.set_cons_zero, List.set_cons_succ]
  refine wpAnyH_ready (rs := [8]) (by kernel_rfl) (by simp) ?_
  refine AllReadyH.cons (o := ⟨some 45, _, _, _, _, _⟩) rfl (fun K hK => ?_) AllReadyH.nil
  go_simp
  refine hK.out _ _ ?_ (fun hHeld => ?_)
  · exact ⟨string_of (c := cx) k1f.out.x, string_of (c := cy) k1f.out.y⟩
  clear hK K
  try simp only [Act.put, List.setIfInBounds_toArray, List.set_cons_zero, List.set_cons_succ]
  clear hs1f hr1f
  refine wpAnyH_take (i := 9) (oi := ⟨some 46, _, _, _, _, _⟩) (v := ?v5) rfl (by kernel_rfl) (by kernel_rfl) (by kernel_rfl) (fun _ _ _ h => h) (Or.inl ⟨by rfl, ?y5⟩) (by assumption) ?r5
  case y5 => (intro w hSw; (try dsimp only at hSw); first | (go_simp; done) | (go_simp; with_reducible rfl))
  case' r5 => (simp only [Act.put, List.setIfInBounds_toArray, List.set_cons_zero, List.set_cons_succ])
  refine wpAnyH_take (i := 10) (oi := ⟨some 47, _, _, _, _, _⟩) (v := ?v6) rfl (by kernel_rfl) (by kernel_rfl) (by kernel_rfl) (fun _ _ _ h => h) (Or.inl ⟨by rfl, ?y6⟩) (by assumption) ?r6
  case y6 => (intro w hSw; (try dsimp only at hSw); first | (go_simp; done) | (go_simp; with_reducible rfl))
  case' r6 => (simp only [Act.put, List.setIfInBounds_toArray, List.set_cons_zero, List.set_cons_succ])
  refine wpAnyH_take (i := 11) (oi := ⟨some 48, _, _, _, _, _⟩) (v := ?v7) rfl (by kernel_rfl) (by kernel_rfl) (by kernel_rfl) (fun _ _ _ h => h) (Or.inl ⟨by rfl, ?y7⟩) (by assumption) ?r7
  case y7 => (intro w hSw; (try dsimp only at hSw); first | (go_simp; done) | (go_simp; with_reducible rfl))
  case' r7 => (simp only [Act.put, List.setIfInBounds_toArray, List.set_cons_zero, List.set_cons_succ])
  refine wpAnyH_take (i := 12) (oi := ⟨some 49, _, _, _, _, _⟩) (v := ?v8) rfl (by kernel_rfl) (by kernel_rfl) (by kernel_rfl) (fun _ _ _ h => h) (Or.inl ⟨by rfl, ?y8⟩) (by assumption) ?r8
  case y8 => (intro w hSw; (try dsimp only at hSw); first | (go_simp; done) | (go_simp; with_reducible rfl))
  case' r8 => (simp only [Act.put, List.setIfInBounds_toArray, List.set_cons_zero, List.set_cons_succ])
  refine wpAnyH_take (i := 14) (oi := ⟨some 51, _, _, _, _, _⟩) (v := ?v9) rfl (by kernel_rfl) (by kernel_rfl) (by kernel_rfl) (fun _ _ _ h => h) (Or.inl ⟨by rfl, ?y9⟩) (by assumption) ?r9
  case y9 => (intro w hSw; (try dsimp only at hSw); first | (go_simp; done) | (go_simp; with_reducible rfl))
  case' r9 => (simp only [Act.put, List.setIfInBounds_toArray, List.set_cons_zero, List.set_cons_succ])
  refine wpAnyH_take (i := 16) (oi := ⟨some 53, _, _, _, _, _⟩) (v := ?v10) rfl (by kernel_rfl) (by kernel_rfl) (by kernel_rfl) (fun _ _ _ h => h) (Or.inl ⟨by rfl, ?y10⟩) (by assumption) ?r10
  case y10 => (intro w hSw; (try dsimp only at hSw); first | (go_simp; done) | (go_simp; with_reducible rfl))
  case' r10 => (simp only [Act.put, List.setIfInBounds_toArray, List.set_cons_zero, List.set_cons_succ])
  refine wpAnyH_ready (rs := [13]) (by kernel_rfl) (by simp) ?_
  refine AllReadyH.cons (o := ⟨some 50, _, _, _, _, _⟩) rfl (fun K hK => ?_) AllReadyH.nil
  go_simp
  have ho2 := own_empty W1f; have hb2a : Below W1f.heap.size W1f (W1f.alloc (.cells #[] 5)) := (Below.refl _ W1f).alloc (Nat.le_refl _) (.cells #[] 5); have k2a := Lib.hid (k1f.out.on hb2a)
  refine hK.out _ _ ?_ (fun hHeld => ?_)
  · exact ⟨string_of (c := cx) k2a.out.x, string_of (c := cy) k2a.out.y⟩
  clear hK K
  try simp only [Act.put, List.setIfInBounds_toArray, List.set_cons_zero, List.set_cons_succ]
  generalize hW2 : W1f.alloc (.cells #[] 5) = W2a at ho2 k2a hb2a hHeld ⊢
  clear hW2
  have hb2h := Lib.hid hb2a
  have ho2h := Lib.hid ho2
  clear hb2a ho2
  refine wpAnyH_ready (rs := [15]) (by kernel_rfl) (by simp) ?_
  refine AllReadyH.cons (o := ⟨some 52, _, _, _, _, _⟩) rfl (fun K hK => ?_) AllReadyH.nil
  refine Step.step_append (by rfl) (.tmp 50) (.tmp 51) rfl W1f.heap.size (.slice (some ⟨W1f.heap.size, 0, none⟩) 0 0) [] l0 A0 l0.length c0 rfl rfl ho2h.out k2a.out.r0 hb2h.out.size (by simp; omega) ?_; intro v2b W2b ho2b hg2b; have hb2b := Lib.hid (hb2h.out.trans (grown_below ho2h.out hg2b hb2h.out.size)); have k2b := Lib.hid (k1f.out.on hb2b.out)
  refine hK.out _ _ ?_ (fun hHeld => ?_)
  · exact ⟨string_of (c := cx) k2b.out.x, string_of (c := cy) k2b.out.y⟩
  clear hK K
  try simp only [Act.put, List.setIfInBounds_toArray, List.set_cons_zero, List.set_cons_succ]
  rw [List.nil_append] at ho2b
  have ho2c := Lib.hid ho2b
  clear ho2b hg2b
  refine wpAnyH_ready (rs := [17]) (by kernel_rfl) (by simp) ?_
  refine AllReadyH.cons (o := ⟨some 54, _, _, _, _, _⟩) rfl (fun K hK => ?_) AllReadyH.nil
  refine Step.step_append (by rfl) (.tmp 52) (.tmp 53) rfl W1f.heap.size v2b l0 l2 A2 l2.length c2 rfl rfl ho2c.out k2b.out.r2 hb2b.out.size (by omega) ?_; intro v2d W2d ho2d hg2d; have hb2d := Lib.hid (hb2b.out.trans (grown_below ho2c.out hg2d hb2b.out.size)); have k2d := Lib.hid (k1f.out.on hb2d.out); obtain ⟨A2d, c2d, rfl, _, hr2d⟩ := own_reads_of_le (d := (0 : UInt8)) ho2d; rw [List.length_append] at hr2d; have hr2e := Lib.hid hr2d; clear hr2d ho2d hg2d
  refine hK.out _ _ ?_ (fun hHeld => ?_)
  · exact ⟨string_of (c := cx) k2d.out.x, string_of (c := cy) k2d.out.y⟩
  clear hK K
  try simp only [Act.put, List.setIfInBounds_toArray, List.set_cons_zero, List.set_cons_succ]
  refine wpAnyH_ready (rs := [18]) (by kernel_rfl) (by simp) ?_
  refine AllReadyH.cons (o := ⟨some 55, _, _, _, _, _⟩) rfl (fun K hK => ?_) AllReadyH.nil
  go_simp
  go_at_call 15; refine (Clone.hashsum_any A2d (l0.length + l2.length) c2d (l0 ++ l2) W2d k2d.out.tabs hr2e.out (by omega)).mono ?_; rintro e W2f ⟨v2f, rfl, ho2f, hb2f⟩; rw [hD2'.out, hE2'.out] at ho2f; obtain ⟨A2f, c2f, rfl, _, hr2f⟩ := own_reads_of_le (d := (0 : UInt8)) ho2f; have hs2f := string_of (c := c2f) hr2f; have k2f := Lib.hid (k2d.out.on hb2f); clear ho2f hb2f; go_wp2_with fail
  refine hK.out _ _ ?_ (fun hHeld => ?_)
  · exact ⟨string_of (c := cx) k2f.out.x, string_of (c := cy) k2f.out.y⟩
  clear hK K
  try simp only [Act.put, List.setIfInBounds_toArray, List.set_cons_zero, List.set_cons_succ]
  refine wpAnyH_ready (rs := [19]) (by kernel_rfl) (by simp) ?_
  refine AllReadyH.cons (o := ⟨some 56, _, _, _, _, _⟩) rfl (fun K hK => ?_) AllReadyH.nil
  go_simp
  refine hK.out _ _ ?_ (fun hHeld => ?_)
  · exact ⟨string_of (c := cx) k2f.out.x, string_of (c := cy) k2f.out.y⟩
  clear hK K
  try simp only [Act.put, List.setIfInBounds_toArray, List.set_cons_zero, List.set_cons_succ]
  clear hs2f hr2f
  refine wpAnyH_take (i := 20) (oi := ⟨some 57, _, _, _, _, _⟩) (v := ?v11) rfl (by kernel_rfl) (by kernel_rfl) (by kernel_rfl) (fun _ _ _ h => h) (Or.inl ⟨by rfl, ?y11⟩) (by assumption) ?r11
  case y11 => (intro w hSw; (try dsimp only at hSw); first | (go_simp; done) | (go_simp; with_reducible rfl))
  case' r11 => (simp only [Act.put, List.setIfInBounds_toArray, List.set_cons_zero, List.set_cons_succ])
  refine wpAnyH_take (i := 21) (oi := ⟨some 58, _, _, _, _, _⟩) (v := ?v12) rfl (by kernel_rfl) (by kernel_rfl) (by kernel_rfl) (fun _ _ _ h => h) (Or.inl ⟨by rfl, ?y12⟩) (by assumption) ?r12
  case y12 => (intro w hSw; (try dsimp only at hSw); first | (go_simp; done) | (go_simp; with_reducible rfl))
  case' r12 => (simp only [Act.put, List.setIfInBounds_toArray, List.set_cons_zero, List.set_cons_succ])
  refine wpAnyH_take (i := 22) (oi := ⟨some 6, _, _, _, _, _⟩) (v := ?v13) rfl (by kernel_rfl) (by kernel_rfl) (by kernel_rfl) (fun _ _ _ h => h) (Or.inl ⟨by rfl, ?y13⟩) (by assumption) ?r13
  case y13 => (intro w hSw; (try dsimp only at hSw); first | (go_simp; done) | (go_simp; with_reducible rfl))
  case' r13 => (simp only [Act.put, List.setIfInBounds_toArray, List.set_cons_zero, List.set_cons_succ])
  refine wpAnyH_done (by kernel_rfl) ?_ _
  go_wp2_with fail
  go_ret
  exact ⟨rfl, k2f.out.below⟩
end Go.Proofs.YtcelojkecfiocaaDoor.Apart
