/- HashPieces: in whatever pieces the bytes are written. -/
import Derived.Test.YtcelojkecfiocaaDoorAwake
import Derived.Laws.Bits128
namespace Go.Proofs.YtcelojkecfiocaaDoor.Pieces
open Go.RowKit Go.Proofs.YtcelojkecfiocaaDoor.Bv Go.Proofs.YtcelojkecfiocaaDoor.Mem
open Go.Proofs.YtcelojkecfiocaaDoorW.PrintWords
open Go.Proofs.YtcelojkecfiocaaDoor.Changed (Tabs list8)
open Go.Proofs.YtcelojkecfiocaaDoor.Obj
open Go.Proofs.YtcelojkecfiocaaDoor.Str
open Go.Proofs.YtcelojkecfiocaaDoor.HSum (reads_new)
open Go.Proofs.YtcelojkecfiocaaDoor.RefFilled (info5 Own)

structure Rel (p : Nat) (w wr : World) (l : List UInt8) (a : Nat) : Prop where
  below : Below w.heap.size w wr
  hash : HashAt wr p (l.take a)
  tabs : Tabs wr

def Post (w : World) (e : Ending) (w' : World) : Prop := e = .returned (.bool true) ∧ Below w.heap.size w w'

set_option maxRecDepth 100000 in
set_option maxHeartbeats 800000 in
theorem pieces_any (A A2 : Option Addr) (c n2 c2 : Nat) (l : List UInt8) (xs : List Int) (w : World) (hT : Tabs w) (hr : ReadsOf eb 0 w A l.length l) (hc : l.length ≤ c) (hn : l.length ≤ 140737488351232)
    (hr2 : ReadsInt w .i64 A2 n2 xs) : Calls Tryd.prog 4 #[.slice A l.length c, .slice A2 n2 c2] w (Post w) := by
  have hn2 := hr2.2.1
  go_enter Tryd.func4, Tryd.ntmps4
  go_wp2_with fail
  refine (Awake.awake_any w hT).mono ?_
  rintro e w1 ⟨rfl, hb1⟩
  have hT1 := hT.below hb1
  go_wp2_with fail
  refine (new_any w1 hT1).mono ?_
  rintro e w2 ⟨rfl, hh, hb2⟩
  have hp := hb1.size
  replace hb2 := hb1.trans (hb2.mono hp)
  have hI : Rel w1.heap.size w w2 l 0 := ⟨hb2, by simpa using hh, hT.below hb2⟩
  generalize w1.heap.size = p at hh hp hI ⊢
  clear hh hb2 hT1 hb1
  go_wp2_with fail
  go_loopg [7, 8, 9, 10] n2 (fun k s7 s8 s9 s10 wr => ∃ i a : Nat, s7 = .int .i64 (a : Int) ∧ s8 = .int .i64 (i : Int) ∧ i + k = n2 ∧ a ≤ l.length ∧ Rel p w wr l a)
  case atStart => exact ⟨0, 0, rfl, rfl, by omega, by omega, hI⟩
  case round =>
    obtain ⟨i, a, rfl, rfl, hik, ha, hJ⟩ := hrel
    by_cases hi : i < n2
    · by_cases hal : a < l.length
      · have hrw2 := ReadsOf.below hr2 hJ.below
        obtain ⟨ad2, e2, hc2⟩ := hrw2.2.2 (by omega)
        subst e2
        have hci := hc2 i hi
        obtain ⟨x, hx⟩ : ∃ x, x = xs.getD i 0 := ⟨_, rfl⟩
        rw [← hx] at hci
        clear hx hc2
        go_upto_region 10 with (fail)
        have hB : ∃ N : Nat, (if (l.length : Int) - (a : Int) < bits BinOp.and IntKind.i64 x 127 then (l.length : Int) - (a : Int) else bits BinOp.and IntKind.i64 x 127) = (N : Int) ∧ a + N ≤ l.length := by
          rw [i64_and127]
          refine ⟨(if (l.length : Int) - (a : Int) < x % 128 then (l.length : Int) - (a : Int) else x % 128).toNat, ?_, ?_⟩
          · split <;> omega
          · split <;> omega
        obtain ⟨N, hN, haN⟩ := hB
        rw [hN]
        clear hN hci
        obtain ⟨A', hs, hrd⟩ := part_mid A c l a N (a : Int) ((a : Int) + (N : Int)) rfl rfl haN hc
        have hrN := hrd wr (hr.below hJ.below)
        clear hrd
        go_wp2_with fail
        refine (Write.write_any p (l.take a) A' N (c - a) ((l.drop a).take N) wr hJ.tabs hJ.hash hrN (by omega) (by simp; omega)).mono ?_
        rintro e w3 ⟨rfl, hh3, hb3⟩
        have hT3 := hb3.tabs hJ.tabs hJ.hash.old
        have hB3 := hJ.below.trans (hb3.below hp hJ.below.size)
        have e3 : l.take a ++ (l.drop a).take N = l.take (a + N) := by rw [List.take_add]
        rw [e3] at hh3
        clear hJ hrw2 hrN hs hb3 e3
        go_wp2_with fail
        refine (HSum.sum_any p (l.take (a + N)) w3 hT3 hh3 (by simp; omega)).mono ?_
        rintro e w4 ⟨v, rfl, hown, hb4⟩
        have hT4 := hT3.below hb4
        have hh4 := hh3.below hb4
        have hB4 := hB3.trans (hb4.mono hB3.size)
        obtain ⟨Ax, cx, rfl, hcx, hrx⟩ := own_reads_of_le (d := (0 : UInt8)) hown
        obtain ⟨D, hD⟩ : ∃ D, D = Sha.sha (l.take (a + N)) := ⟨_, rfl⟩
        have hDl : D.length = 32 := by rw [hD]; exact Sha.sha_length _
        rw [← hD] at hrx hcx ⊢
        rw [hDl] at hrx hcx ⊢
        clear hown hb4 hT3 hh3 hB3
        go_upto_region 13 with (fail)
        have hrl : ReadsOf eb 0 w4.drew A l.length l := (hr.below hB4).below (Below.refl _ _).drew
        have hTd : Tabs w4.drew := hT4.below (Below.refl _ _).drew
        obtain ⟨hs, hrd⟩ := part_take A c l (a + N) ((a : Int) + (N : Int)) (by omega) haN hc
        have hrt := hrd w4.drew hrl
        have hsx := string_of (c := cx) (hrx.below (Below.refl _ _).drew)
        have hnn : a + N ≤ 140737488351232 := by omega
        have hR : Rel p w w4 l (a + N) := ⟨hB4, hh4, hT4⟩
        have hR' := Lib.hid hR
        have hD' := Lib.hid hD.symm
        have hDl' := Lib.hid hDl
        clear hrd hR hB4 hh4 hT4 hrl hD hDl
        have hev : (i : Int).tmod 2 = 0 ∨ (i : Int).tmod 2 = 1 := by rw [Int.tmod_eq_emod_of_nonneg (by omega)]; omega
        rcases hev with hev | hev
        · refine wp_region_held_drew (S := (fun w' => (convert 22 9 (.slice Ax 32 cx)).run Tryd.prog w' = .ok (.string (str D)) w')) (by kernel_rfl) ?_ (fun hHeld => ?_)
          · exact hsx
          refine wpAnyH_take (i := 0) (oi := ⟨some 55, _, _, _, _, _⟩) (v := ?v1) rfl (by kernel_rfl) (by kernel_rfl) (by kernel_rfl) (fun _ _ _ h => h) (Or.inl ⟨by rfl, ?y1⟩) (by assumption) ?r1
          case y1 => (intro w hSw; (try dsimp only at hSw); first | (go_simp; done) | (go_simp; with_reducible rfl))
          case' r1 => (simp only [Act.put, List.setIfInBounds_toArray, List.set_cons_zero, List.set_cons_succ])
          refine wpAnyH_take (i := 1) (oi := ⟨some 56, _, _, _, _, _⟩) (v := ?v2) rfl (by kernel_rfl) (by kernel_rfl) (by kernel_rfl) (fun _ _ _ h => h) (Or.inl ⟨by rfl, ?y2⟩) (by assumption) ?r2
          case y2 => (intro w hSw; (try dsimp only at hSw); first | (go_simp; done) | (go_simp; with_reducible rfl))
          case' r2 => (simp only [Act.put, List.setIfInBounds_toArray, List.set_cons_zero, List.set_cons_succ])
          refine wpAnyH_take (i := 2) (oi := ⟨some 57, _, _, _, _, _⟩) (v := ?v3) rfl (by kernel_rfl) (by kernel_rfl) (by kernel_rfl) (fun _ _ _ h => h) (Or.inl ⟨by rfl, ?y3⟩) (by assumption) ?r3
          case y3 => (intro w hSw; (try dsimp only at hSw); first | (go_simp; done) | (go_simp; with_reducible rfl))
          case' r3 => (simp only [Act.put, List.setIfInBounds_toArray, List.set_cons_zero, List.set_cons_succ])
          refine wpAnyH_take (i := 3) (oi := ⟨some 58, _, _, _, _, _⟩) (v := ?v4) rfl (by kernel_rfl) (by kernel_rfl) (by kernel_rfl) (fun _ _ _ h => h) (Or.inl ⟨by rfl, ?y4⟩) (by assumption) ?r4
          case y4 => (intro w hSw; (try dsimp only at hSw); first | (go_simp; done) | (go_simp; with_reducible rfl))
          case' r4 => (simp only [Act.put, List.setIfInBounds_toArray, List.set_cons_zero, List.set_cons_succ])
          refine wpAnyH_take (i := 4) (oi := ⟨some 59, _, _, _, _, _⟩) (v := ?v5) rfl (by kernel_rfl) (by kernel_rfl) (by kernel_rfl) (fun _ _ _ h => h) (Or.inl ⟨by rfl, ?y5⟩) (by assumption) ?r5
          case y5 => (intro w hSw; (try dsimp only at hSw); first | (go_simp; done) | (go_simp; with_reducible rfl))
          case' r5 => (simp only [Act.put, List.setIfInBounds_toArray, List.set_cons_zero, List.set_cons_succ])
          refine wpAnyH_take (i := 5) (oi := ⟨some 60, _, _, _, _, _⟩) (v := ?v6) rfl (by kernel_rfl) (by kernel_rfl) (by kernel_rfl) (fun _ _ _ h => h) (Or.inl ⟨by rfl, ?y6⟩) (by assumption) ?r6
          case y6 => (intro w hSw; (try dsimp only at hSw); first | (go_simp; done) | (go_simp; with_reducible rfl))
          case' r6 => (simp only [Act.put, List.setIfInBounds_toArray, List.set_cons_zero, List.set_cons_succ])
          refine wpAnyH_take (i := 6) (oi := ⟨some 61, _, _, _, _, _⟩) (v := ?v7) rfl (by kernel_rfl) (by kernel_rfl) (by kernel_rfl) (fun _ _ _ h => h) (Or.inl ⟨by rfl, ?y7⟩) (by assumption) ?r7
          case y7 => (intro w hSw; (try dsimp only at hSw); first | (go_simp; done) | (go_simp; with_reducible rfl))
          case' r7 => (simp only [Act.put, List.setIfInBounds_toArray, List.set_cons_zero, List.set_cons_succ])
          refine wpAnyH_take (i := 7) (oi := ⟨some 62, _, _, _, _, _⟩) (v := ?v8) rfl (by kernel_rfl) (by kernel_rfl) (by kernel_rfl) (fun _ _ _ h => h) (Or.inl ⟨by rfl, ?y8⟩) (by assumption) ?r8
          case y8 => (intro w hSw; (try dsimp only at hSw); first | (go_simp; done) | (go_simp; with_reducible rfl))
          case' r8 => (simp only [Act.put, List.setIfInBounds_toArray, List.set_cons_zero, List.set_cons_succ])
          refine wpAnyH_take (i := 8) (oi := ⟨some 63, _, _, _, _, _⟩) (v := ?v9) rfl (by kernel_rfl) (by kernel_rfl) (by kernel_rfl) (fun _ _ _ h => h) (Or.inl ⟨by rfl, ?y9⟩) (by assumption) ?r9
          case y9 => (intro w hSw; (try dsimp only at hSw); first | (go_simp; done) | (go_simp; with_reducible rfl))
          case' r9 => (simp only [Act.put, List.setIfInBounds_toArray, List.set_cons_zero, List.set_cons_succ])
          refine wpAnyH_ready (rs := [9]) (by kernel_rfl) (by simp) ?_
          refine AllReadyH.cons (o := ⟨some 64, _, _, _, _, _⟩) rfl (fun K hK => ?_) AllReadyH.nil
          go_simp
          go_at_call 15; refine (Clone.hashsum_any A (a + N) c (l.take (a + N)) w4.drew hTd hrt hnn).mono ?_; rintro e w5 ⟨v5, rfl, hown5, hb5⟩; rw [hD'.out, hDl'.out] at hown5; have hsy := string_of (c := cx) ((hrx.below (Below.refl _ _).drew).below hb5); obtain ⟨A5, c5, rfl, _, hrd5⟩ := own_reads_of_le (d := (0 : UInt8)) hown5; have hs5 := string_of (c := c5) hrd5; go_wp2_with fail
          refine hK.out _ _ ?_ (fun hHeld => ?_)
          · exact hsy
          clear hK K
          try simp only [Act.put, List.setIfInBounds_toArray, List.set_cons_zero, List.set_cons_succ]
          refine wpAnyH_ready (rs := [10]) (by kernel_rfl) (by simp) ?_
          refine AllReadyH.cons (o := ⟨some 65, _, _, _, _, _⟩) rfl (fun K hK => ?_) AllReadyH.nil
          go_simp
          refine hK.out _ _ ?_ (fun hHeld => ?_)
          · exact hsy
          clear hK K
          try simp only [Act.put, List.setIfInBounds_toArray, List.set_cons_zero, List.set_cons_succ]
          refine wpAnyH_take (i := 11) (oi := ⟨some 66, _, _, _, _, _⟩) (v := ?v10) rfl (by kernel_rfl) (by kernel_rfl) (by kernel_rfl) (fun _ _ _ h => h) (Or.inl ⟨by rfl, ?y10⟩) (by assumption) ?r10
          case y10 => (intro w hSw; (try dsimp only at hSw); first | (go_simp; done) | (go_simp; with_reducible rfl))
          case' r10 => (simp only [Act.put, List.setIfInBounds_toArray, List.set_cons_zero, List.set_cons_succ])
          refine wpAnyH_take (i := 12) (oi := ⟨some 67, _, _, _, _, _⟩) (v := ?v11) rfl (by kernel_rfl) (by kernel_rfl) (by kernel_rfl) (fun _ _ _ h => h) (Or.inl ⟨by rfl, ?y11⟩) (by assumption) ?r11
          case y11 => (intro w hSw; (try dsimp only at hSw); first | (go_simp; done) | (go_simp; with_reducible rfl))
          case' r11 => (simp only [Act.put, List.setIfInBounds_toArray, List.set_cons_zero, List.set_cons_succ])
          refine wpAnyH_done (by kernel_rfl) ?_ _
          go_wp2_with fail
          have hR5 : Rel p w w5 l (a + N) := ⟨hR'.out.below.trans ((Below.refl _ _).drew.trans (hb5.mono (by have := hR'.out.below.size; simpa using this))), (hR'.out.hash.below (Below.refl _ _).drew).below hb5, hTd.below hb5⟩
          go_roundg (gk - 1)
          case measure => omega
          case rel => exact ⟨i + 1, a + N, by simp, by simp, by omega, by omega, hR5⟩
        · go_quiet (fail)
          go_wp2_with fail
          have hR5 : Rel p w (w4.drewN nq) l (a + N) := ⟨hR'.out.below.trans (below_drewN (Below.refl _ _) _), hR'.out.hash.below (below_drewN (Below.refl _ _) _), hR'.out.tabs.below (below_drewN (Below.refl _ _) _)⟩
          go_roundg (gk - 1)
          case measure => omega
          case rel => exact ⟨i + 1, a + N, by simp, by simp, by omega, by omega, hR5⟩
      · obtain ⟨A', hs, hrd⟩ := part_drop A c l a (a : Int) rfl ha hc
        have hrN := hrd wr (hr.below hJ.below)
        clear hrd
        go_wp2_with fail
        refine (Write.write_any p (l.take a) A' (l.length - a) (c - a) (l.drop a) wr hJ.tabs hJ.hash hrN (by omega) (by simp; omega)).mono ?_
        rintro e w3 ⟨rfl, hh3, hb3⟩
        have hT3 := hb3.tabs hJ.tabs hJ.hash.old
        have hB3 := hJ.below.trans (hb3.below hp hJ.below.size)
        rw [List.take_append_drop] at hh3
        clear hJ hrN hs hb3
        go_wp2_with fail
        refine (HSum.sum_any p l w3 hT3 hh3 (by omega)).mono ?_
        rintro e w4 ⟨v, rfl, hown, hb4⟩
        have hT4 := hT3.below hb4
        have hh4 := hh3.below hb4
        have hB4 := hB3.trans (hb4.mono hB3.size)
        obtain ⟨Ax, cx, rfl, hcx, hrx⟩ := own_reads_of_le (d := (0 : UInt8)) hown
        obtain ⟨D, hD⟩ : ∃ D, D = Sha.sha l := ⟨_, rfl⟩
        have hDl : D.length = 32 := by rw [hD]; exact Sha.sha_length _
        rw [← hD] at hrx hcx ⊢
        rw [hDl] at hrx hcx ⊢
        clear hown hb4 hT3 hh3 hB3
        go_upto_region 17 with (fail)
        have hrl : ReadsOf eb 0 w4.drew A l.length l := (hr.below hB4).below (Below.refl _ _).drew
        have hTd : Tabs w4.drew := hT4.below (Below.refl _ _).drew
        have hhd : HashAt w4.drew p l := hh4.below (Below.refl _ _).drew
        have hBd : Below w.heap.size w w4.drew := hB4.trans ((Below.refl _ _).drew)
        have hsx := string_of (c := cx) (hrx.below (Below.refl _ _).drew)
        have hD' := Lib.hid hD.symm
        have hDl' := Lib.hid hDl
        clear hD hDl hB4 hh4 hT4
        have hn' : l.length ≤ 140737488351232 := hn
        refine wp_region_held_drew (S := (fun w' => (convert 22 9 (.slice Ax 32 cx)).run Tryd.prog w' = .ok (.string (str D)) w')) (by kernel_rfl) ?_ (fun hHeld => ?_)
        · exact hsx
        refine wpAnyH_take (i := 0) (oi := ⟨some 75, _, _, _, _, _⟩) (v := ?v12) rfl (by kernel_rfl) (by kernel_rfl) (by kernel_rfl) (fun _ _ _ h => h) (Or.inl ⟨by rfl, ?y12⟩) (by assumption) ?r12
        case y12 => (intro w hSw; (try dsimp only at hSw); first | (go_simp; done) | (go_simp; with_reducible rfl))
        case' r12 => (simp only [Act.put, List.setIfInBounds_toArray, List.set_cons_zero, List.set_cons_succ])
        refine wpAnyH_take (i := 1) (oi := ⟨some 76, _, _, _, _, _⟩) (v := ?v13) rfl (by kernel_rfl) (by kernel_rfl) (by kernel_rfl) (fun _ _ _ h => h) (Or.inl ⟨by rfl, ?y13⟩) (by assumption) ?r13
        case y13 => (intro w hSw; (try dsimp only at hSw); first | (go_simp; done) | (go_simp; with_reducible rfl))
        case' r13 => (simp only [Act.put, List.setIfInBounds_toArray, List.set_cons_zero, List.set_cons_succ])
        refine wpAnyH_take (i := 2) (oi := ⟨some 77, _, _, _, _, _⟩) (v := ?v14) rfl (by kernel_rfl) (by kernel_rfl) (by kernel_rfl) (fun _ _ _ h => h) (Or.inl ⟨by rfl, ?y14⟩) (by assumption) ?r14
        case y14 => (intro w hSw; (try dsimp only at hSw); first | (go_simp; done) | (go_simp; with_reducible rfl))
        case' r14 => (simp only [Act.put, List.setIfInBounds_toArray, List.set_cons_zero, List.set_cons_succ])
        refine wpAnyH_take (i := 3) (oi := ⟨some 78, _, _, _, _, _⟩) (v := ?v15) rfl (by kernel_rfl) (by kernel_rfl) (by kernel_rfl) (fun _ _ _ h => h) (Or.inl ⟨by rfl, ?y15⟩) (by assumption) ?r15
        case y15 => (intro w hSw; (try dsimp only at hSw); first | (go_simp; done) | (go_simp; with_reducible rfl))
        case' r15 => (simp only [Act.put, List.setIfInBounds_toArray, List.set_cons_zero, List.set_cons_succ])
        refine wpAnyH_take (i := 4) (oi := ⟨some 79, _, _, _, _, _⟩) (v := ?v16) rfl (by kernel_rfl) (by kernel_rfl) (by kernel_rfl) (fun _ _ _ h => h) (Or.inl ⟨by rfl, ?y16⟩) (by assumption) ?r16
        case y16 => (intro w hSw; (try dsimp only at hSw); first | (go_simp; done) | (go_simp; with_reducible rfl))
        case' r16 => (simp only [Act.put, List.setIfInBounds_toArray, List.set_cons_zero, List.set_cons_succ])
        refine wpAnyH_take (i := 5) (oi := ⟨some 80, _, _, _, _, _⟩) (v := ?v17) rfl (by kernel_rfl) (by kernel_rfl) (by kernel_rfl) (fun _ _ _ h => h) (Or.inl ⟨by rfl, ?y17⟩) (by assumption) ?r17
        case y17 => (intro w hSw; (try dsimp only at hSw); first | (go_simp; done) | (go_simp; with_reducible rfl))
        case' r17 => (simp only [Act.put, List.setIfInBounds_toArray, List.set_cons_zero, List.set_cons_succ])
        refine wpAnyH_take (i := 6) (oi := ⟨some 81, _, _, _, _, _⟩) (v := ?v18) rfl (by kernel_rfl) (by kernel_rfl) (by kernel_rfl) (fun _ _ _ h => h) (Or.inl ⟨by rfl, ?y18⟩) (by assumption) ?r18
        case y18 => (intro w hSw; (try dsimp only at hSw); first | (go_simp; done) | (go_simp; with_reducible rfl))
        case' r18 => (simp only [Act.put, List.setIfInBounds_toArray, List.set_cons_zero, List.set_cons_succ])
        refine wpAnyH_ready (rs := [7]) (by kernel_rfl) (by simp) ?_
        refine AllReadyH.cons (o := ⟨some 82, _, _, _, _, _⟩) rfl (fun K hK => ?_) AllReadyH.nil
        go_simp
        go_at_call 15; refine (Clone.hashsum_any A l.length c l w4.drew hTd hrl hn').mono ?_; rintro e w5 ⟨v5, rfl, hown5, hb5⟩; rw [hD'.out, hDl'.out] at hown5; have hsy := string_of (c := cx) ((hrx.below (Below.refl _ _).drew).below hb5); obtain ⟨A5, c5, rfl, _, hrd5⟩ := own_reads_of_le (d := (0 : UInt8)) hown5; have hs5 := string_of (c := c5) hrd5; have hh5 := hhd.below hb5; go_wp2_with fail
        refine hK.out _ _ ?_ (fun hHeld => ?_)
        · exact hsy
        clear hK K
        try simp only [Act.put, List.setIfInBounds_toArray, List.set_cons_zero, List.set_cons_succ]
        refine wpAnyH_ready (rs := [8]) (by kernel_rfl) (by simp) ?_
        refine AllReadyH.cons (o := ⟨some 83, _, _, _, _, _⟩) rfl (fun K hK => ?_) AllReadyH.nil
        go_simp
        refine hK.out _ _ ?_ (fun hHeld => ?_)
        · exact hsy
        clear hK K
        try simp only [Act.put, List.setIfInBounds_toArray, List.set_cons_zero, List.set_cons_succ]
        refine wpAnyH_take (i := 9) (oi := ⟨some 84, _, _, _, _, _⟩) (v := ?v19) rfl (by kernel_rfl) (by kernel_rfl) (by kernel_rfl) (fun _ _ _ h => h) (Or.inl ⟨by rfl, ?y19⟩) (by assumption) ?r19
        case y19 => (intro w hSw; (try dsimp only at hSw); first | (go_simp; done) | (go_simp; with_reducible rfl))
        case' r19 => (simp only [Act.put, List.setIfInBounds_toArray, List.set_cons_zero, List.set_cons_succ])
        refine wpAnyH_take (i := 10) (oi := ⟨some 85, _, _, _, _, _⟩) (v := ?v20) rfl (by kernel_rfl) (by kernel_rfl) (by kernel_rfl) (fun _ _ _ h => h) (Or.inl ⟨by rfl, ?y20⟩) (by assumption) ?r20
        case y20 => (intro w hSw; (try dsimp only at hSw); first | (go_simp; done) | (go_simp; with_reducible rfl))
        case' r20 => (simp only [Act.put, List.setIfInBounds_toArray, List.set_cons_zero, List.set_cons_succ])
        refine wpAnyH_take (i := 11) (oi := ⟨some 86, _, _, _, _, _⟩) (v := ?v21) rfl (by kernel_rfl) (by kernel_rfl) (by kernel_rfl) (fun _ _ _ h => h) (Or.inl ⟨by rfl, ?y21⟩) (by assumption) ?r21
        case y21 => (intro w hSw; (try dsimp only at hSw); first | (go_simp; done) | (go_simp; with_reducible rfl))
        case' r21 => (simp only [Act.put, List.setIfInBounds_toArray, List.set_cons_zero, List.set_cons_succ])
        refine wpAnyH_take (i := 12) (oi := ⟨some 87, _, _, _, _, _⟩) (v := ?v22) rfl (by kernel_rfl) (by kernel_rfl) (by kernel_rfl) (fun _ _ _ h => h) (Or.inl ⟨by rfl, ?y22⟩) (by assumption) ?r22
        case y22 => (intro w hSw; (try dsimp only at hSw); first | (go_simp; done) | (go_simp; with_reducible rfl))
        case' r22 => (simp only [Act.put, List.setIfInBounds_toArray, List.set_cons_zero, List.set_cons_succ])
        refine wpAnyH_take (i := 14) (oi := ⟨some 89, _, _, _, _, _⟩) (v := ?v23) rfl (by kernel_rfl) (by kernel_rfl) (by kernel_rfl) (fun _ _ _ h => h) (Or.inl ⟨by rfl, ?y23⟩) (by assumption) ?r23
        case y23 => (intro w hSw; (try dsimp only at hSw); first | (go_simp; done) | (go_simp; with_reducible rfl))
        case' r23 => (simp only [Act.put, List.setIfInBounds_toArray, List.set_cons_zero, List.set_cons_succ])
        refine wpAnyH_take (i := 15) (oi := ⟨some 90, _, _, _, _, _⟩) (v := ?v24) rfl (by kernel_rfl) (by kernel_rfl) (by kernel_rfl) (fun _ _ _ h => h) (Or.inl ⟨by rfl, ?y24⟩) (by assumption) ?r24
        case y24 => (intro w hSw; (try dsimp only at hSw); first | (go_simp; done) | (go_simp; with_reducible rfl))
        case' r24 => (simp only [Act.put, List.setIfInBounds_toArray, List.set_cons_zero, List.set_cons_succ])
        refine wpAnyH_ready (rs := [13]) (by kernel_rfl) (by simp) ?_
        refine AllReadyH.cons (o := ⟨some 88, _, _, _, _, _⟩) rfl (fun K hK => ?_) AllReadyH.nil
        go_simp
        go_at_call 22; refine (Obj.len_any p l w5 hh5).mono ?_; rintro e w6 ⟨rfl, rfl⟩; go_wp2_with fail
        refine hK.out _ _ ?_ (fun hHeld => ?_)
        · exact hsy
        clear hK K
        try simp only [Act.put, List.setIfInBounds_toArray, List.set_cons_zero, List.set_cons_succ]
        refine wpAnyH_take (i := 16) (oi := ⟨some 91, _, _, _, _, _⟩) (v := ?v25) rfl (by kernel_rfl) (by kernel_rfl) (by kernel_rfl) (fun _ _ _ h => h) (Or.inl ⟨by rfl, ?y25⟩) (by assumption) ?r25
        case y25 => (intro w hSw; (try dsimp only at hSw); first | (go_simp; done) | (go_simp; with_reducible rfl))
        case' r25 => (simp only [Act.put, List.setIfInBounds_toArray, List.set_cons_zero, List.set_cons_succ])
        refine wpAnyH_take (i := 17) (oi := ⟨some 92, _, _, _, _, _⟩) (v := ?v26) rfl (by kernel_rfl) (by kernel_rfl) (by kernel_rfl) (fun _ _ _ h => h) (Or.inl ⟨by rfl, ?y26⟩) (by assumption) ?r26
        case y26 => (intro w hSw; (try dsimp only at hSw); first | (go_simp; done) | (go_simp; with_reducible rfl))
        case' r26 => (simp only [Act.put, List.setIfInBounds_toArray, List.set_cons_zero, List.set_cons_succ])
        refine wpAnyH_take (i := 18) (oi := ⟨some 4, _, _, _, _, _⟩) (v := ?v27) rfl (by kernel_rfl) (by kernel_rfl) (by kernel_rfl) (fun _ _ _ h => h) (Or.inl ⟨by rfl, ?y27⟩) (by assumption) ?r27
        case y27 => (intro w hSw; (try dsimp only at hSw); first | (go_simp; done) | (go_simp; with_reducible rfl))
        case' r27 => (simp only [Act.put, List.setIfInBounds_toArray, List.set_cons_zero, List.set_cons_succ])
        refine wpAnyH_done (by kernel_rfl) ?_ _
        go_wp2_with fail
        go_ret
        exact ⟨rfl, hBd.trans (hb5.mono hBd.size)⟩
    · obtain ⟨A', hs, hrd⟩ := part_drop A c l a (a : Int) rfl ha hc
      have hrN := hrd wr (hr.below hJ.below)
      clear hrd
      go_wp2_with fail
      refine (Write.write_any p (l.take a) A' (l.length - a) (c - a) (l.drop a) wr hJ.tabs hJ.hash hrN (by omega) (by simp; omega)).mono ?_
      rintro e w3 ⟨rfl, hh3, hb3⟩
      have hT3 := hb3.tabs hJ.tabs hJ.hash.old
      have hB3 := hJ.below.trans (hb3.below hp hJ.below.size)
      rw [List.take_append_drop] at hh3
      clear hJ hrN hs hb3
      go_wp2_with fail
      refine (HSum.sum_any p l w3 hT3 hh3 (by omega)).mono ?_
      rintro e w4 ⟨v, rfl, hown, hb4⟩
      have hT4 := hT3.below hb4
      have hh4 := hh3.below hb4
      have hB4 := hB3.trans (hb4.mono hB3.size)
      obtain ⟨Ax, cx, rfl, hcx, hrx⟩ := own_reads_of_le (d := (0 : UInt8)) hown
      obtain ⟨D, hD⟩ : ∃ D, D = Sha.sha l := ⟨_, rfl⟩
      have hDl : D.length = 32 := by rw [hD]; exact Sha.sha_length _
      rw [← hD] at hrx hcx ⊢
      rw [hDl] at hrx hcx ⊢
      clear hown hb4 hT3 hh3 hB3
      go_upto_region 17 with (fail)
      have hrl : ReadsOf eb 0 w4.drew A l.length l := (hr.below hB4).below (Below.refl _ _).drew
      have hTd : Tabs w4.drew := hT4.below (Below.refl _ _).drew
      have hhd : HashAt w4.drew p l := hh4.below (Below.refl _ _).drew
      have hBd : Below w.heap.size w w4.drew := hB4.trans ((Below.refl _ _).drew)
      have hsx := string_of (c := cx) (hrx.below (Below.refl _ _).drew)
      have hD' := Lib.hid hD.symm
      have hDl' := Lib.hid hDl
      clear hD hDl hB4 hh4 hT4
      have hn' : l.length ≤ 140737488351232 := hn
      refine wp_region_held_drew (S := (fun w' => (convert 22 9 (.slice Ax 32 cx)).run Tryd.prog w' = .ok (.string (str D)) w')) (by kernel_rfl) ?_ (fun hHeld => ?_)
      · exact hsx
      refine wpAnyH_take (i := 0) (oi := ⟨some 75, _, _, _, _, _⟩) (v := ?v28) rfl (by kernel_rfl) (by kernel_rfl) (by kernel_rfl) (fun _ _ _ h => h) (Or.inl ⟨by rfl, ?y28⟩) (by assumption) ?r28
      case y28 => (intro w hSw; (try dsimp only at hSw); first | (go_simp; done) | (go_simp; with_reducible rfl))
      case' r28 => (simp only [Act.put, List.setIfInBounds_toArray, List.set_cons_zero, List.set_cons_succ])
      refine wpAnyH_take (i := 1) (oi := ⟨some 76, _, _, _, _, _⟩) (v := ?v29) rfl (by kernel_rfl) (by kernel_rfl) (by kernel_rfl) (fun _ _ _ h => h) (Or.inl ⟨by rfl, ?y29⟩) (by assumption) ?r29
      case y29 => (intro w hSw; (try dsimp only at hSw); first | (go_simp; done) | (go_simp; with_reducible rfl))
      case' r29 => (simp only [Act.put, List.setIfInBounds_toArray, List.set_cons_zero, List.set_cons_succ])
      refine wpAnyH_take (i := 2) (oi := ⟨some 77, _, _, _, _, _⟩) (v := ?v30) rfl (by kernel_rfl) (by kernel_rfl) (by kernel_rfl) (fun _ _ _ h => h) (Or.inl ⟨by rfl, ?y30⟩) (by assumption) ?r30
      case y30 => (intro w hSw; (try dsimp only at hSw); first | (go_simp; done) | (go_simp; with_reducible rfl))
      case' r30 => (simp only [Act.put, List.setIfInBounds_toArray, List.set_cons_zero, List.set_cons_succ])
      refine wpAnyH_take (i := 3) (oi := ⟨some 78, _, _, _, _, _⟩) (v := ?v31) rfl (by kernel_rfl) (by kernel_rfl) (by kernel_rfl) (fun _ _ _ h => h) (Or.inl ⟨by rfl, ?y31⟩) (by assumption) ?r31
      case y31 => (intro w hSw; (try dsimp only at hSw); first | (go_simp; done) | (go_simp; with_reducible rfl))
      case' r31 => (simp only [Act.put, List.setIfInBounds_toArray, List.set_cons_zero, List.set_cons_succ])
      refine wpAnyH_take (i := 4) (oi := ⟨some 79, _, _, _, _, _⟩) (v := ?v32) rfl (by kernel_rfl) (by kernel_rfl) (by kernel_rfl) (fun _ _ _ h => h) (Or.inl ⟨by rfl, ?y32⟩) (by assumption) ?r32
      case y32 => (intro w hSw; (try dsimp only at hSw); first | (go_simp; done) | (go_simp; with_reducible rfl))
      case' r32 => (simp only [Act.put, List.setIfInBounds_toArray, List.set_cons_zero, List.set_cons_succ])
      refine wpAnyH_take (i := 5) (oi := ⟨some 80, _, _, _, _, _⟩) (v := ?v33) rfl (by kernel_rfl) (by kernel_rfl) (by kernel_rfl) (fun _ _ _ h => h) (Or.inl ⟨by rfl, ?y33⟩) (by assumption) ?r33
      case y33 => (intro w hSw; (try dsimp only at hSw); first | (go_simp; done) | (go_simp; with_reducible rfl))
      case' r33 => (simp only [Act.put, List.setIfInBounds_toArray, List.set_cons_zero, List.set_cons_succ])
      refine wpAnyH_take (i := 6) (oi := ⟨some 81, _, _, _, _, _⟩) (v := ?v34) rfl (by kernel_rfl) (by kernel_rfl) (by kernel_rfl) (fun _ _ _ h => h) (Or.inl ⟨by rfl, ?y34⟩) (by assumption) ?r34
      case y34 => (intro w hSw; (try dsimp only at hSw); first | (go_simp; done) | (go_simp; with_reducible rfl))
      case' r34 => (simp only [Act.put, List.setIfInBounds_toArray, List.set_cons_zero, List.set_cons_succ])
      refine wpAnyH_ready (rs := [7]) (by kernel_rfl) (by simp) ?_
      refine AllReadyH.cons (o := ⟨some 82, _, _, _, _, _⟩) rfl (fun K hK => ?_) AllReadyH.nil
      go_simp
      go_at_call 15; refine (Clone.hashsum_any A l.length c l w4.drew hTd hrl hn').mono ?_; rintro e w5 ⟨v5, rfl, hown5, hb5⟩; rw [hD'.out, hDl'.out] at hown5; have hsy := string_of (c := cx) ((hrx.below (Below.refl _ _).drew).below hb5); obtain ⟨A5, c5, rfl, _, hrd5⟩ := own_reads_of_le (d := (0 : UInt8)) hown5; have hs5 := string_of (c := c5) hrd5; have hh5 := hhd.below hb5; go_wp2_with fail
      refine hK.out _ _ ?_ (fun hHeld => ?_)
      · exact hsy
      clear hK K
      try simp only [Act.put, List.setIfInBounds_toArray, List.set_cons_zero, List.set_cons_succ]
      refine wpAnyH_ready (rs := [8]) (by kernel_rfl) (by simp) ?_
      refine AllReadyH.cons (o := ⟨some 83, _, _, _, _, _⟩) rfl (fun K hK => ?_) AllReadyH.nil
      go_simp
      refine hK.out _ _ ?_ (fun hHeld => ?_)
      · exact hsy
      clear hK K
      try simp only [Act.put, List.setIfInBounds_toArray, List.set_cons_zero, List.set_cons_succ]
      refine wpAnyH_take (i := 9) (oi := ⟨some 84, _, _, _, _, _⟩) (v := ?v35) rfl (by kernel_rfl) (by kernel_rfl) (by kernel_rfl) (fun _ _ _ h => h) (Or.inl ⟨by rfl, ?y35⟩) (by assumption) ?r35
      case y35 => (intro w hSw; (try dsimp only at hSw); first | (go_simp; done) | (go_simp; with_reducible rfl))
      case' r35 => (simp only [Act.put, List.setIfInBounds_toArray, List.set_cons_zero, List.set_cons_succ])
      refine wpAnyH_take (i := 10) (oi := ⟨some 85, _, _, _, _, _⟩) (v := ?v36) rfl (by kernel_rfl) (by kernel_rfl) (by kernel_rfl) (fun _ _ _ h => h) (Or.inl ⟨by rfl, ?y36⟩) (by assumption) ?r36
      case y36 => (intro w hSw; (try dsimp only at hSw); first | (go_simp; done) | (go_simp; with_reducible rfl))
      case' r36 => (simp only [Act.put, List.setIfInBounds_toArray, List.set_cons_zero, List.set_cons_succ])
      refine wpAnyH_take (i := 11) (oi := ⟨some 86, _, _, _, _, _⟩) (v := ?v37) rfl (by kernel_rfl) (by kernel_rfl) (by kernel_rfl) (fun _ _ _ h => h) (Or.inl ⟨by rfl, ?y37⟩) (by assumption) ?r37
      case y37 => (intro w hSw; (try dsimp only at hSw); first | (go_simp; done) | (go_simp; with_reducible rfl))
      case' r37 => (simp only [Act.put, List.setIfInBounds_toArray, List.set_cons_zero, List.set_cons_succ])
      refine wpAnyH_take (i := 12) (oi := ⟨some 87, _, _, _, _, _⟩) (v := ?v38) rfl (by kernel_rfl) (by kernel_rfl) (by kernel_rfl) (fun _ _ _ h => h) (Or.inl ⟨by rfl, ?y38⟩) (by assumption) ?r38
      case y38 => (intro w hSw; (try dsimp only at hSw); first | (go_simp; done) | (go_simp; with_reducible rfl))
      case' r38 => (simp only [Act.put, List.setIfInBounds_toArray, List.set_cons_zero, List.set_cons_succ])
      refine wpAnyH_take (i := 14) (oi := ⟨some 89, _, _, _, _, _⟩) (v := ?v39) rfl (by kernel_rfl) (by kernel_rfl) (by kernel_rfl) (fun _ _ _ h => h) (Or.inl ⟨by rfl, ?y39⟩) (by assumption) ?r39
      case y39 => (intro w hSw; (try dsimp only at hSw); first | (go_simp; done) | (go_simp; with_reducible rfl))
      case' r39 => (simp only [Act.put, List.setIfInBounds_toArray, List.set_cons_zero, List.set_cons_succ])
      refine wpAnyH_take (i := 15) (oi := ⟨some 90, _, _, _, _, _⟩) (v := ?v40) rfl (by kernel_rfl) (by kernel_rfl) (by kernel_rfl) (fun _ _ _ h => h) (Or.inl ⟨by rfl, ?y40⟩) (by assumption) ?r40
      case y40 => (intro w hSw; (try dsimp only at hSw); first | (go_simp; done) | (go_simp; with_reducible rfl))
      case' r40 => (simp only [Act.put, List.setIfInBounds_toArray, List.set_cons_zero, List.set_cons_succ])
      refine wpAnyH_ready (rs := [13]) (by kernel_rfl) (by simp) ?_
      refine AllReadyH.cons (o := ⟨some 88, _, _, _, _, _⟩) rfl (fun K hK => ?_) AllReadyH.nil
      go_simp
      go_at_call 22; refine (Obj.len_any p l w5 hh5).mono ?_; rintro e w6 ⟨rfl, rfl⟩; go_wp2_with fail
      refine hK.out _ _ ?_ (fun hHeld => ?_)
      · exact hsy
      clear hK K
      try simp only [Act.put, List.setIfInBounds_toArray, List.set_cons_zero, List.set_cons_succ]
      refine wpAnyH_take (i := 16) (oi := ⟨some 91, _, _, _, _, _⟩) (v := ?v41) rfl (by kernel_rfl) (by kernel_rfl) (by kernel_rfl) (fun _ _ _ h => h) (Or.inl ⟨by rfl, ?y41⟩) (by assumption) ?r41
      case y41 => (intro w hSw; (try dsimp only at hSw); first | (go_simp; done) | (go_simp; with_reducible rfl))
      case' r41 => (simp only [Act.put, List.setIfInBounds_toArray, List.set_cons_zero, List.set_cons_succ])
      refine wpAnyH_take (i := 17) (oi := ⟨some 92, _, _, _, _, _⟩) (v := ?v42) rfl (by kernel_rfl) (by kernel_rfl) (by kernel_rfl) (fun _ _ _ h => h) (Or.inl ⟨by rfl, ?y42⟩) (by assumption) ?r42
      case y42 => (intro w hSw; (try dsimp only at hSw); first | (go_simp; done) | (go_simp; with_reducible rfl))
      case' r42 => (simp only [Act.put, List.setIfInBounds_toArray, List.set_cons_zero, List.set_cons_succ])
      refine wpAnyH_take (i := 18) (oi := ⟨some 4, _, _, _, _, _⟩) (v := ?v43) rfl (by kernel_rfl) (by kernel_rfl) (by kernel_rfl) (fun _ _ _ h => h) (Or.inl ⟨by rfl, ?y43⟩) (by assumption) ?r43
      case y43 => (intro w hSw; (try dsimp only at hSw); first | (go_simp; done) | (go_simp; with_reducible rfl))
      case' r43 => (simp only [Act.put, List.setIfInBounds_toArray, List.set_cons_zero, List.set_cons_succ])
      refine wpAnyH_done (by kernel_rfl) ?_ _
      go_wp2_with fail
      go_ret
      exact ⟨rfl, hBd.trans (hb5.mono hBd.size)⟩
end Go.Proofs.YtcelojkecfiocaaDoor.Pieces
