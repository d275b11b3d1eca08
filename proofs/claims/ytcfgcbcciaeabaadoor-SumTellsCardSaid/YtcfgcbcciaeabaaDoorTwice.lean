/- matrix.twice: done two times. Conditions: none. -/
import Derived.Test.YtcfgcbcciaeabaaDoorOf
import Derived.RegionCalls
import Derived.Laws.Tables
namespace Go.Proofs.YtcfgcbcciaeabaaDoor.Twice
open Go.RowKit Go.Proofs.YtcfgcbcciaeabaaDoor.Bv Go.Proofs.YtcfgcbcciaeabaaDoor.Mem
open Go.Proofs.YtcfgcbcciaeabaaDoorW.PrintWords
open Go.Proofs.YtcfgcbcciaeabaaDoor.Crc
open Go.Proofs.YtcfgcbcciaeabaaDoor.Of (reads_tab of_any)

def two (m : List W) : List W := (List.range 32).map fun i => ofu m (m.getD i 0#32) 32
theorem two_length (m : List W) : (two m).length = 32 := by simp [two]
/-- The first i are done. -/
def part (m : List W) (i : Nat) : List Value := ((two m).take i).map eu ++ List.replicate (32 - i) (eu 0#32)
theorem part_set (m : List W) (i : Nat) (h : i < 32) : (part m i).set i (eu (ofu m (m.getD i 0#32) 32)) = part m (i + 1) := by
  unfold part
  have e : List.replicate (32 - i) (eu 0#32) = eu 0#32 :: List.replicate (32 - (i + 1)) (eu 0#32) := by
    rw [← List.replicate_succ]
    congr 1
    omega
  have hl : (((two m).take i).map eu).length = i := by rw [List.length_map, List.length_take, two_length]; omega
  rw [e, set_mid _ _ _ _ i hl, List.take_succ_eq_append_getElem (by rw [two_length]; exact h)]
  simp [two]
theorem part_get (m : List W) (i : Nat) (h : i < 32) : (part m i)[i]? = some (eu 0#32) := by
  unfold part
  have hl : (((two m).take i).map eu).length = i := by rw [List.length_map, List.length_take, two_length]; omega
  rw [List.getElem?_append_right (by omega), hl, List.getElem?_replicate, if_pos (by omega)]
theorem part_all (m : List W) : part m 32 = (two m).map eu := by
  unfold part
  rw [List.take_of_length_le (by rw [two_length]; omega)]
  simp

structure Rel (B : Nat) (w wr : World) (m : List W) (i : Nat) : Prop where
  below : Below B w wr
  box : Arr wr B 46 (m.map eu)
  res : Arr wr (B + 1) 46 (List.replicate 32 (eu 0#32))
  out : Arr wr (B + 1 + 1) 46 (part m i)

theorem load_yields {W : World} {g : Nat} {R : Array Value} (hg : W.heap[g]? = some (.cells R 46 (0, 0))) (hs : R.size = 32) {o : Oper} {a : Act} {x : Operand} (ho : o.op = .load 46 x) (hx : a.eval x = .pointer (some ⟨g, 0, none⟩)) :
    (execOp a.eval o).run Tryd.prog W = .ok (.value (.agg R)) W := by
  have hi : (Tryd.prog.info? 46).map (·.size) = some R.size := (by kernel_rfl : (Tryd.prog.info? 46).map (·.size) = some 32).trans (congrArg some hs.symm)
  unfold execOp
  simp only [ho, hx, Instr.loadAt, Instr.sureAddr, Sem.run_bind, Sem.run_pure, Result.andThen_ok, run_loadVar_row W g 46 46 R (0, 0) _ hg Tryd.underlying46 rfl hi]
theorem zeros_cells : (List.replicate 32 (eu 0#32)).toArray = #[Value.int .u32 0, Value.int .u32 0, Value.int .u32 0, Value.int .u32 0, Value.int .u32 0, Value.int .u32 0, Value.int .u32 0, Value.int .u32 0, Value.int .u32 0, Value.int .u32 0, Value.int .u32 0, Value.int .u32 0, Value.int .u32 0, Value.int .u32 0, Value.int .u32 0, Value.int .u32 0, Value.int .u32 0, Value.int .u32 0, Value.int .u32 0, Value.int .u32 0, Value.int .u32 0, Value.int .u32 0, Value.int .u32 0, Value.int .u32 0, Value.int .u32 0, Value.int .u32 0, Value.int .u32 0, Value.int .u32 0, Value.int .u32 0, Value.int .u32 0, Value.int .u32 0, Value.int .u32 0] := rfl
theorem Rel.start (w : World) (m : List W) : Rel w.heap.size w (((w.alloc (.cells (m.map eu).toArray 46)).alloc (.cells #[Value.int .u32 0, Value.int .u32 0, Value.int .u32 0, Value.int .u32 0, Value.int .u32 0, Value.int .u32 0, Value.int .u32 0, Value.int .u32 0, Value.int .u32 0, Value.int .u32 0, Value.int .u32 0, Value.int .u32 0, Value.int .u32 0, Value.int .u32 0, Value.int .u32 0, Value.int .u32 0, Value.int .u32 0, Value.int .u32 0, Value.int .u32 0, Value.int .u32 0, Value.int .u32 0, Value.int .u32 0, Value.int .u32 0, Value.int .u32 0, Value.int .u32 0, Value.int .u32 0, Value.int .u32 0, Value.int .u32 0, Value.int .u32 0, Value.int .u32 0, Value.int .u32 0, Value.int .u32 0] 46)).alloc (.cells #[Value.int .u32 0, Value.int .u32 0, Value.int .u32 0, Value.int .u32 0, Value.int .u32 0, Value.int .u32 0, Value.int .u32 0, Value.int .u32 0, Value.int .u32 0, Value.int .u32 0, Value.int .u32 0, Value.int .u32 0, Value.int .u32 0, Value.int .u32 0, Value.int .u32 0, Value.int .u32 0, Value.int .u32 0, Value.int .u32 0, Value.int .u32 0, Value.int .u32 0, Value.int .u32 0, Value.int .u32 0, Value.int .u32 0, Value.int .u32 0, Value.int .u32 0, Value.int .u32 0, Value.int .u32 0, Value.int .u32 0, Value.int .u32 0, Value.int .u32 0, Value.int .u32 0, Value.int .u32 0] 46)) m 0 := by
  rw [← zeros_cells]
  have h1 := (Below.refl w.heap.size w).alloc (Nat.le_refl _) (.cells (m.map eu).toArray 46)
  have h2 := h1.alloc (by simp) (.cells (List.replicate 32 (eu 0#32)).toArray 46)
  have h3 := h2.alloc (by simp; omega) (.cells (List.replicate 32 (eu 0#32)).toArray 46)
  refine ⟨h3, ((Arr.new w 46 (m.map eu)).alloc _).alloc _, ?_, ?_⟩
  · have := (Arr.new (w.alloc (.cells (m.map eu).toArray 46)) 46 (List.replicate 32 (eu 0#32))).alloc (.cells (List.replicate 32 (eu 0#32)).toArray 46)
    simpa using this
  · have := Arr.new ((w.alloc (.cells (m.map eu).toArray 46)).alloc (.cells (List.replicate 32 (eu 0#32)).toArray 46)) 46 (List.replicate 32 (eu 0#32))
    simpa [part] using this

set_option maxRecDepth 100000 in
set_option maxHeartbeats 400000 in
theorem twice_any (m : List W) (hm : m.length = 32) (w : World) : Calls Tryd.prog 29 #[.agg (m.map eu).toArray] w fun e w' => e = .returned (.agg ((two m).map eu).toArray) ∧ Below w.heap.size w w' := by
  have hml := Lib.hid hm
  clear hm
  go_enter Tryd.func29, Tryd.ntmps29
  go_wp2_with fail
  have hI := Rel.start w m
  generalize (((w.alloc (.cells (m.map eu).toArray 46)).alloc (.cells #[Value.int .u32 0, Value.int .u32 0, Value.int .u32 0, Value.int .u32 0, Value.int .u32 0, Value.int .u32 0, Value.int .u32 0, Value.int .u32 0, Value.int .u32 0, Value.int .u32 0, Value.int .u32 0, Value.int .u32 0, Value.int .u32 0, Value.int .u32 0, Value.int .u32 0, Value.int .u32 0, Value.int .u32 0, Value.int .u32 0, Value.int .u32 0, Value.int .u32 0, Value.int .u32 0, Value.int .u32 0, Value.int .u32 0, Value.int .u32 0, Value.int .u32 0, Value.int .u32 0, Value.int .u32 0, Value.int .u32 0, Value.int .u32 0, Value.int .u32 0, Value.int .u32 0, Value.int .u32 0] 46)).alloc (.cells #[Value.int .u32 0, Value.int .u32 0, Value.int .u32 0, Value.int .u32 0, Value.int .u32 0, Value.int .u32 0, Value.int .u32 0, Value.int .u32 0, Value.int .u32 0, Value.int .u32 0, Value.int .u32 0, Value.int .u32 0, Value.int .u32 0, Value.int .u32 0, Value.int .u32 0, Value.int .u32 0, Value.int .u32 0, Value.int .u32 0, Value.int .u32 0, Value.int .u32 0, Value.int .u32 0, Value.int .u32 0, Value.int .u32 0, Value.int .u32 0, Value.int .u32 0, Value.int .u32 0, Value.int .u32 0, Value.int .u32 0, Value.int .u32 0, Value.int .u32 0, Value.int .u32 0, Value.int .u32 0] 46)) = w0 at hI ⊢
  go_loopg [4, 5] 32 (fun k s4 s5 wr => ∃ i : Nat, i + k = 32 ∧ s5 = .int .i64 (i : Int) ∧ Rel w.heap.size w wr m i)
  case atStart => exact ⟨0, by omega, rfl, hI⟩
  case round =>
    obtain ⟨i, hik, rfl, hJ⟩ := hrel
    by_cases hi : i < 32
    · have hci : wr.drew.cell? ⟨w.heap.size, i, none⟩ = some (eu (m.getD i 0#32)) := reads_tab hJ.box i (by rw [hml.out]; exact hi)
      obtain ⟨q, hq⟩ : ∃ q, q = m.getD i 0#32 := ⟨_, rfl⟩
      rw [← hq] at hci
      have hget := Lib.hid (part_get m i hi)
      have hbx : Hid (Arr wr.drew w.heap.size 46 (m.map eu)) := hJ.box
      have hJ' := Lib.hid hJ
      have hq' := Lib.hid hq
      clear hJ hI hq
      go_wp2_with fail
      -- REGION
      refine wp_region_held_drew (S := (fun W : World => W.heap[w.heap.size]? = some (.cells (m.map eu).toArray 46 (0, 0)) ∧ W.cell? ⟨w.heap.size, i, none⟩ = some (eu q))) (by kernel_rfl) ?_ (fun hHeld => ?_)
      · exact ⟨hbx.out, hci⟩
      refine wpAnyH_take (i := 0) (oi := ⟨some 8, _, _, _, _, _⟩) (v := ?v1) rfl (by kernel_rfl) (by kernel_rfl) (by kernel_rfl) (fun _ _ _ h => h) (Or.inl ⟨by rfl, ?y1⟩) (by assumption) ?r1
      case y1 => (intro w hSw; (try dsimp only at hSw); first | (go_simp; done) | (go_simp; with_reducible rfl))
      case' r1 => (simp only [Act.put, List.setIfInBounds_toArray, List.set_cons_zero, List.set_cons_succ])
      refine wpAnyH_take (i := 1) (oi := ⟨some 9, _, _, _, _, _⟩) (v := ?v2) rfl (by kernel_rfl) (by kernel_rfl) (by kernel_rfl) (fun _ _ _ h => h) (Or.inl ⟨by rfl, ?y2⟩) (by assumption) ?r2
      case y2 => (intro w1 hSw; refine load_yields (x := .tmp 1) hSw.1 ?_ ?_ ?_; (rw [List.size_toArray, List.length_map]; exact hml.out); rfl; rfl)
      case' r2 => (simp only [Act.put, List.setIfInBounds_toArray, List.set_cons_zero, List.set_cons_succ])
      refine wpAnyH_take (i := 2) (oi := ⟨some 10, _, _, _, _, _⟩) (v := ?v3) rfl (by kernel_rfl) (by kernel_rfl) (by kernel_rfl) (fun _ _ _ h => h) (Or.inl ⟨by rfl, ?y3⟩) (by assumption) ?r3
      case y3 => (intro w hSw; (try dsimp only at hSw); first | (go_simp; done) | (go_simp; with_reducible rfl))
      case' r3 => (simp only [Act.put, List.setIfInBounds_toArray, List.set_cons_zero, List.set_cons_succ])
      refine wpAnyH_take (i := 3) (oi := ⟨some 11, _, _, _, _, _⟩) (v := ?v4) rfl (by kernel_rfl) (by kernel_rfl) (by kernel_rfl) (fun _ _ _ h => h) (Or.inl ⟨by rfl, ?y4⟩) (by assumption) ?r4
      case y4 => (intro w hSw; (try dsimp only at hSw); first | (go_simp; done) | (go_simp; with_reducible rfl))
      case' r4 => (simp only [Act.put, List.setIfInBounds_toArray, List.set_cons_zero, List.set_cons_succ])
      refine wpAnyH_take (i := 4) (oi := ⟨some 12, _, _, _, _, _⟩) (v := ?v5) rfl (by kernel_rfl) (by kernel_rfl) (by kernel_rfl) (fun _ _ _ h => h) (Or.inl ⟨by rfl, ?y5⟩) (by assumption) ?r5
      case y5 => (intro w hSw; (try dsimp only at hSw); first | (go_simp; done) | (go_simp; with_reducible rfl))
      case' r5 => (simp only [Act.put, List.setIfInBounds_toArray, List.set_cons_zero, List.set_cons_succ])
      refine wpAnyH_ready (rs := [5]) (by kernel_rfl) (by simp) ?_
      refine AllReadyH.cons (o := ⟨some 13, _, _, _, _, _⟩) rfl (fun K hK => ?_) AllReadyH.nil
      go_simp
      go_at_call 28; refine (of_any m hml.out q wr.drew).mono ?_; rintro e w2 ⟨rfl, hb2⟩; go_wp2_with fail; have hbx2 : Arr w2 w.heap.size 46 (m.map eu) := Arr.below (w := wr.drew) hJ'.out.box hb2; have hou : Arr w2 (w.heap.size + 1 + 1) 46 (part m i) := Arr.below (w := wr.drew) hJ'.out.out hb2; have hco : w2.cell? ⟨w.heap.size + 1 + 1, i, none⟩ = some (eu 0#32) := by (rw [hou.cell]; exact hget.out)
      refine hK.out _ _ ?_ (fun hHeld => ?_)
      · exact ⟨hbx2, by rw [hq'.out]; exact reads_tab hbx2 i (by rw [hml.out]; exact hi)⟩
      clear hK K
      try simp only [Act.put, List.setIfInBounds_toArray, List.set_cons_zero, List.set_cons_succ]
      have hfo := hou.free i
      refine wpAnyH_take (i := 6) (oi := ⟨some 14, _, _, _, _, _⟩) (v := ?v6) rfl (by kernel_rfl) (by kernel_rfl) (by kernel_rfl) (fun _ _ _ h => h) (Or.inl ⟨by rfl, ?y6⟩) (by assumption) ?r6
      case y6 => (intro w hSw; (try dsimp only at hSw); first | (go_simp; done) | (go_simp; with_reducible rfl))
      case' r6 => (simp only [Act.put, List.setIfInBounds_toArray, List.set_cons_zero, List.set_cons_succ])
      have hR3 : Rel w.heap.size w (w2.setCell ⟨w.heap.size + 1 + 1, i, none⟩ (eu (ofu m q 32))) m (i + 1) := by
        have hb := (hJ'.out.below.trans (below_drewN (Below.refl _ _) 1)).trans (hb2.mono hJ'.out.below.size)
        have hres : Arr w2 (w.heap.size + 1) 46 (List.replicate 32 (eu 0#32)) := Arr.below (w := wr.drew) hJ'.out.res hb2
        have h1 := hou.set i (eu (ofu m q 32))
        rw [hq'.out, part_set m i hi, ← hq'.out] at h1
        exact ⟨below_setCell hb (by simp; omega) _, hbx2.other (by simp; omega) _, hres.other (by simp) _, h1⟩
      have hR4 := Lib.hid hR3
      clear hR3
      refine wpAnyH_ready (rs := [7]) (by kernel_rfl) (by simp) ?_
      refine AllReadyH.cons (o := ⟨none, _, _, _, _, _⟩) rfl (fun K hK => ?_) AllReadyH.nil
      go_simp
      refine hK.out _ _ ?_ (fun hHeld => ?_)
      · exact ⟨hR4.out.box, by have h3 := reads_tab hR4.out.box i (by rw [hml.out]; exact hi); rw [← hq'.out] at h3; exact h3⟩
      clear hK K
      try simp only [Act.put, List.setIfInBounds_toArray, List.set_cons_zero, List.set_cons_succ]
      refine wpAnyH_done (by kernel_rfl) ?_ _
      clear hHeld hco hfo hou hbx2 hb2 hci hbx
      go_wp2_with fail
      go_roundg (gk - 1)
      case measure => omega
      case rel => exact ⟨i + 1, by omega, by simp, hR4.out⟩
    · obtain rfl : i = 32 := by omega
      have hfull : Arr wr (w.heap.size + 1 + 1) 46 ((two m).map eu) := by rw [← part_all]; exact hJ.out
      have hres := hJ.res
      have HB := hJ.below
      have hl := two_length m
      have hsz : ((two m).map eu).toArray.size = 32 := by simp [hl]
      have hone : (((two m).map eu).toArray).all (·.oneCell') = true := by simp [Value.oneCell']
      obtain ⟨R, hRR⟩ : ∃ R, R = (two m).map eu := ⟨_, rfl⟩
      rw [← hRR] at hfull hsz hone
      have hRH := Lib.hid hRR
      have hinf : (Tryd.prog.info? 46).map (·.size) = some R.toArray.size := (by kernel_rfl : (Tryd.prog.info? 46).map (·.size) = some 32).trans (congrArg some hsz.symm)
      clear hl hJ hI hRR
      go_wp2_with (first
        | ((with_reducible refine wpList_load_row (o := ⟨some 16, Op.load 46 (.tmp 3), _, _, _, none⟩) ?k1 46 (.tmp 3) ?k2 (w.heap.size + 1 + 1) ?k3 46 R.toArray (0, 0) _ ?k4 Tryd.underlying46 ?k5 hinf ?k6); (case k1 => rfl); (case k2 => rfl); (case k3 => rfl); (case k4 => exact hfull); (case k5 => rfl))
        | ((with_reducible refine wpList_store_row (o := ⟨none, Op.store 46 (.tmp 2) (.tmp 16), _, _, _, none⟩) ?l1 46 (.tmp 2) (.tmp 16) ?l2 (w.heap.size + 1) R.toArray ?l3 ?l4 46 ?l5 ?l6 hinf ?l7 hone ?l8); (case l1 => rfl); (case l2 => rfl); (case l3 => rfl); (case l4 => rfl); (case l6 => exact hres); (case l7 => simp [hsz])))
      have hst : (wr.setRow (w.heap.size + 1) R.toArray).heap[w.heap.size + 1]? = some (.cells R.toArray 46 (0, 0)) := hres.setRow R
      refine bodyPost_ret (v := .agg R.toArray) ?_ rfl ⟨by rw [hRH.out], below_setRow HB (by omega) _⟩
      exact results_cell_row (by rfl) _ _ (w.heap.size + 1) 46 R.toArray (0, 0) _ (by rfl) hst Tryd.underlying46 (by rfl) hinf
    -- END
end Go.Proofs.YtcfgcbcciaeabaaDoor.Twice
