/- byteful: eight turns, as a matrix. Conditions: none. -/
import Derived.Test.YtcfgcbcciaeabaaDoorTwice
namespace Go.Proofs.YtcfgcbcciaeabaaDoor.Byteful
open Go.RowKit Go.Proofs.YtcfgcbcciaeabaaDoor.Bv Go.Proofs.YtcfgcbcciaeabaaDoor.Mem
open Go.Proofs.YtcfgcbcciaeabaaDoorW.PrintWords
open Go.Proofs.YtcfgcbcciaeabaaDoor.Crc
open Go.Proofs.YtcfgcbcciaeabaaDoor.Of (reads_tab of_any)
open Go.Proofs.YtcfgcbcciaeabaaDoor.Twice (two two_length twice_any)

def zeros : Array Value := #[Value.int .u32 0, Value.int .u32 0, Value.int .u32 0, Value.int .u32 0, Value.int .u32 0, Value.int .u32 0, Value.int .u32 0, Value.int .u32 0, Value.int .u32 0, Value.int .u32 0, Value.int .u32 0, Value.int .u32 0, Value.int .u32 0, Value.int .u32 0, Value.int .u32 0, Value.int .u32 0, Value.int .u32 0, Value.int .u32 0, Value.int .u32 0, Value.int .u32 0, Value.int .u32 0, Value.int .u32 0, Value.int .u32 0, Value.int .u32 0, Value.int .u32 0, Value.int .u32 0, Value.int .u32 0, Value.int .u32 0, Value.int .u32 0, Value.int .u32 0, Value.int .u32 0, Value.int .u32 0]
def first : Array Value := #[Value.int .u32 2197175160, Value.int .u32 0, Value.int .u32 0, Value.int .u32 0, Value.int .u32 0, Value.int .u32 0, Value.int .u32 0, Value.int .u32 0, Value.int .u32 0, Value.int .u32 0, Value.int .u32 0, Value.int .u32 0, Value.int .u32 0, Value.int .u32 0, Value.int .u32 0, Value.int .u32 0, Value.int .u32 0, Value.int .u32 0, Value.int .u32 0, Value.int .u32 0, Value.int .u32 0, Value.int .u32 0, Value.int .u32 0, Value.int .u32 0, Value.int .u32 0, Value.int .u32 0, Value.int .u32 0, Value.int .u32 0, Value.int .u32 0, Value.int .u32 0, Value.int .u32 0, Value.int .u32 0]
/-- The first i rows of one turn stand. -/
def part (i : Nat) : List Value := ((mat turn).take i).map eu ++ List.replicate (32 - i) (eu 0#32)
theorem first_part : first = (part 1).toArray := by kernel_rfl
theorem zeros_part : zeros = (List.replicate 32 (eu 0#32)).toArray := rfl
theorem part_len (i : Nat) (h : i ≤ 32) : (((mat turn).take i).map eu).length = i := by rw [List.length_map, List.length_take, mat_length]; omega
theorem part_set (i : Nat) (h : i < 32) (v : W) (hv : v = turn (1#32 <<< i)) : (part i).set i (eu v) = part (i + 1) := by
  unfold part
  have e : List.replicate (32 - i) (eu 0#32) = eu 0#32 :: List.replicate (32 - (i + 1)) (eu 0#32) := by
    rw [← List.replicate_succ]
    congr 1
    omega
  rw [e, set_mid _ _ _ _ i (part_len i (by omega)), List.take_succ_eq_append_getElem (by rw [mat_length]; exact h)]
  subst hv
  simp [mat]
theorem part_get (i : Nat) (h : i < 32) : (part i)[i]? = some (eu 0#32) := by
  unfold part
  rw [List.getElem?_append_right (by rw [part_len i (by omega)]; omega), part_len i (by omega), List.getElem?_replicate, if_pos (by omega)]
theorem part_all : part 32 = (mat turn).map eu := by
  unfold part
  rw [List.take_of_length_le (by rw [mat_length]; omega)]
  simp
theorem pow_tn (n : Nat) : (2 : Int) ^ n % 4294967296 = tn (1#32 <<< n) := by
  unfold tn
  rw [BitVec.toNat_shiftLeft, Nat.shiftLeft_eq]
  simp
theorem two_mat {f : W → W} (hf : Lin f) : two (mat f) = mat (fun x => f (f x)) := mat_twice hf

structure Rel (B : Nat) (w wr : World) (i : Nat) : Prop where
  below : Below B w wr
  res : Arr wr B 46 (List.replicate 32 (eu 0#32))
  out : Arr wr (B + 1) 46 (part i)
theorem Rel.start (w : World) : Rel w.heap.size w (((w.alloc (.cells zeros 46)).alloc (.cells zeros 46)).setRow (w.heap.size + 1) first) 1 := by
  have h1 := (Below.refl w.heap.size w).alloc (Nat.le_refl _) (.cells zeros 46)
  have h2 := h1.alloc (by simp) (.cells zeros 46)
  have a2 : Arr ((w.alloc (.cells zeros 46)).alloc (.cells zeros 46)) (w.heap.size + 1) 46 (List.replicate 32 (eu 0#32)) := by
    have := Arr.new (w.alloc (.cells zeros 46)) 46 (List.replicate 32 (eu 0#32))
    simpa [zeros_part] using this
  have a1 : Arr ((w.alloc (.cells zeros 46)).alloc (.cells zeros 46)) w.heap.size 46 (List.replicate 32 (eu 0#32)) := by
    have := (Arr.new w 46 (List.replicate 32 (eu 0#32))).alloc (.cells zeros 46)
    rwa [← zeros_part] at this
  rw [first_part]
  exact ⟨below_setRow h2 (by omega) _, a1.setRow_other (by omega) _, a2.setRow _⟩

set_option maxRecDepth 100000 in
set_option maxHeartbeats 1600000 in
theorem byteful_any (w : World) : Calls Tryd.prog 27 #[] w fun e w' => e = .returned (.agg ((mat eight).map eu).toArray) ∧ Below w.heap.size w w' := by
  have hI := Rel.start w
  have hold : ((w.alloc (.cells zeros 46)).alloc (.cells zeros 46)).heap[w.heap.size + 1]? = some (.cells zeros 46 (0, 0)) := by
    have := heap_alloc_new (w.alloc (.cells zeros 46)) (.cells zeros 46)
    simpa using this
  have hinf : (Tryd.prog.info? 46).map (·.size) = some first.size := by kernel_rfl
  have hone : first.all (·.oneCell') = true := by decide +kernel
  have hold' := Lib.hid hold
  have hI0 : Hid (Rel w.heap.size w (((w.alloc (.cells #[Value.int .u32 0, Value.int .u32 0, Value.int .u32 0, Value.int .u32 0, Value.int .u32 0, Value.int .u32 0, Value.int .u32 0, Value.int .u32 0, Value.int .u32 0, Value.int .u32 0, Value.int .u32 0, Value.int .u32 0, Value.int .u32 0, Value.int .u32 0, Value.int .u32 0, Value.int .u32 0, Value.int .u32 0, Value.int .u32 0, Value.int .u32 0, Value.int .u32 0, Value.int .u32 0, Value.int .u32 0, Value.int .u32 0, Value.int .u32 0, Value.int .u32 0, Value.int .u32 0, Value.int .u32 0, Value.int .u32 0, Value.int .u32 0, Value.int .u32 0, Value.int .u32 0, Value.int .u32 0] 46)).alloc (.cells #[Value.int .u32 0, Value.int .u32 0, Value.int .u32 0, Value.int .u32 0, Value.int .u32 0, Value.int .u32 0, Value.int .u32 0, Value.int .u32 0, Value.int .u32 0, Value.int .u32 0, Value.int .u32 0, Value.int .u32 0, Value.int .u32 0, Value.int .u32 0, Value.int .u32 0, Value.int .u32 0, Value.int .u32 0, Value.int .u32 0, Value.int .u32 0, Value.int .u32 0, Value.int .u32 0, Value.int .u32 0, Value.int .u32 0, Value.int .u32 0, Value.int .u32 0, Value.int .u32 0, Value.int .u32 0, Value.int .u32 0, Value.int .u32 0, Value.int .u32 0, Value.int .u32 0, Value.int .u32 0] 46)).setRow (w.heap.size + 1) first) 1) := hI
  have hI' := Lib.hid hI
  clear hold hI
  go_enter Tryd.func27, Tryd.ntmps27
  go_upto_region 2 with ((with_reducible refine wpList_store_row (o := ⟨none, Op.store 46 (.tmp 1) (.tmp 3), _, _, _, none⟩) ?l1 46 (.tmp 1) (.tmp 3) ?l2 (w.heap.size + 1) first ?l3 ?l4 46 zeros ?l6 hinf ?l7 hone ?l8); (case l1 => rfl); (case l2 => rfl); (case l3 => rfl); (case l4 => rfl); (case l6 => exact hold'.out); (case l7 => rfl))
  generalize (((w.alloc (.cells #[Value.int .u32 0, Value.int .u32 0, Value.int .u32 0, Value.int .u32 0, Value.int .u32 0, Value.int .u32 0, Value.int .u32 0, Value.int .u32 0, Value.int .u32 0, Value.int .u32 0, Value.int .u32 0, Value.int .u32 0, Value.int .u32 0, Value.int .u32 0, Value.int .u32 0, Value.int .u32 0, Value.int .u32 0, Value.int .u32 0, Value.int .u32 0, Value.int .u32 0, Value.int .u32 0, Value.int .u32 0, Value.int .u32 0, Value.int .u32 0, Value.int .u32 0, Value.int .u32 0, Value.int .u32 0, Value.int .u32 0, Value.int .u32 0, Value.int .u32 0, Value.int .u32 0, Value.int .u32 0] 46)).alloc (.cells #[Value.int .u32 0, Value.int .u32 0, Value.int .u32 0, Value.int .u32 0, Value.int .u32 0, Value.int .u32 0, Value.int .u32 0, Value.int .u32 0, Value.int .u32 0, Value.int .u32 0, Value.int .u32 0, Value.int .u32 0, Value.int .u32 0, Value.int .u32 0, Value.int .u32 0, Value.int .u32 0, Value.int .u32 0, Value.int .u32 0, Value.int .u32 0, Value.int .u32 0, Value.int .u32 0, Value.int .u32 0, Value.int .u32 0, Value.int .u32 0, Value.int .u32 0, Value.int .u32 0, Value.int .u32 0, Value.int .u32 0, Value.int .u32 0, Value.int .u32 0, Value.int .u32 0, Value.int .u32 0] 46)).setRow (w.heap.size + 1) first) = W0 at hI0 ⊢
  generalize Value.agg #[Value.int .u32 2197175160, Value.int .u32 0, Value.int .u32 0, Value.int .u32 0, Value.int .u32 0, Value.int .u32 0, Value.int .u32 0, Value.int .u32 0, Value.int .u32 0, Value.int .u32 0, Value.int .u32 0, Value.int .u32 0, Value.int .u32 0, Value.int .u32 0, Value.int .u32 0, Value.int .u32 0, Value.int .u32 0, Value.int .u32 0, Value.int .u32 0, Value.int .u32 0, Value.int .u32 0, Value.int .u32 0, Value.int .u32 0, Value.int .u32 0, Value.int .u32 0, Value.int .u32 0, Value.int .u32 0, Value.int .u32 0, Value.int .u32 0, Value.int .u32 0, Value.int .u32 0, Value.int .u32 0] = u3
  have hI := hI0.out
  clear hI0 hI' hold' hinf hone
  go_wp2_with fail
  go_loopg [2] 31 (fun k s2 wr => ∃ i : Nat, i + k = 32 ∧ 1 ≤ i ∧ s2 = .int .i64 (i : Int) ∧ Rel w.heap.size w wr i)
  case atStart => exact ⟨1, by omega, by omega, rfl, hI⟩
  case round =>
    obtain ⟨i, hik, hi1, rfl, hJ⟩ := hrel
    by_cases hi : i < 32
    · have hco : wr.cell? ⟨w.heap.size + 1, i, none⟩ = some (eu 0#32) := by rw [hJ.out.cell]; exact part_get i hi
      have hfo := hJ.out.free i
      obtain ⟨v, hv⟩ : ∃ v, v = 1#32 <<< ((i : Int) - 1).toNat := ⟨_, rfl⟩
      have hvt : v = turn (1#32 <<< i) := by
        have e1 : ((i : Int) - 1).toNat = i - 1 := by omega
        have e2 : i = (i - 1) + 1 := by omega
        rw [hv, e1]
        conv => rhs; rw [e2]
        rw [turn_bit (i - 1) (by omega)]
      have hset := hJ.out.set i (eu v)
      rw [part_set i hi v hvt] at hset
      have hR : Rel w.heap.size w (wr.setCell ⟨w.heap.size + 1, i, none⟩ (eu v)) (i + 1) := ⟨below_setCell hJ.below (by simp) _, hJ.res.other (by simp) _, hset⟩
      have ev : Value.int .u32 (2 ^ (i - 1) % 4294967296) = eu v := by rw [hv, show ((i : Int) - 1).toNat = i - 1 by omega, pow_tn]
      rw [← ev] at hR
      have hR' := Lib.hid hR
      clear hR hset hvt hv hJ hI ev
      go_wp2_with fail
      go_roundg (gk - 1)
      case measure => omega
      case rel => exact ⟨i + 1, by omega, by omega, by simp, hR'.out⟩
    · obtain rfl : i = 32 := by omega
      have hfull : Arr wr (w.heap.size + 1) 46 ((mat turn).map eu) := by rw [← part_all]; exact hJ.out
      have hres := hJ.res
      have HB := hJ.below
      have tf : ∀ (f : W → W), ((mat f).map eu).toArray.size = 32 := fun f => by simp [mat_length]
      have hinf : ∀ (f : W → W), (Tryd.prog.info? 46).map (·.size) = some ((mat f).map eu).toArray.size := fun f => (by kernel_rfl : (Tryd.prog.info? 46).map (·.size) = some 32).trans (congrArg some (tf f).symm)
      have hinf' := Lib.hid hinf
      obtain ⟨R1, hR1⟩ : ∃ R, R = ((mat turn).map eu).toArray := ⟨_, rfl⟩
      have hi1 := hinf turn
      have hf1 : wr.heap[w.heap.size + 1]? = some (.cells R1 46 (0, 0)) := by rw [hR1]; exact hfull
      rw [← hR1] at hi1
      have t1 := twice_any (mat turn) (mat_length _) wr
      rw [two_mat turn_lin, ← hR1] at t1
      have t1' := Lib.hid t1
      clear hI hJ hfull tf hinf hR1 t1
      go_wp2_with (((with_reducible refine wpList_load_row (o := ⟨some 13, Op.load 46 (.tmp 1), _, _, _, none⟩) ?k1 46 (.tmp 1) ?k2 (w.heap.size + 1) ?k3 46 R1 (0, 0) _ ?k4 Tryd.underlying46 ?k5 hi1 ?k6); (case k1 => rfl); (case k2 => rfl); (case k3 => rfl); (case k4 => exact hf1); (case k5 => rfl)))
      refine t1'.out.mono ?_
      rintro e w1 ⟨rfl, hb1⟩
      have HB1 := HB.trans (hb1.mono HB.size)
      have hres1 := hres.below hb1
      have t2 := twice_any (mat (fun x => turn (turn x))) (mat_length _) w1
      rw [two_mat turn_lin.two] at t2
      have t2' := Lib.hid t2
      clear t2 hb1 HB hf1 hi1
      go_wp2_with fail
      refine t2'.out.mono ?_
      rintro e w2 ⟨rfl, hb2⟩
      have HB2 := HB1.trans (hb2.mono HB1.size)
      have hres2 := hres1.below hb2
      have t3 := twice_any (mat (fun x => (fun x => turn (turn x)) ((fun x => turn (turn x)) x))) (mat_length _) w2
      rw [two_mat turn_lin.two.two] at t3
      have t3' := Lib.hid t3
      clear t3 hb2 HB1
      go_wp2_with fail
      refine t3'.out.mono ?_
      rintro e w3 ⟨rfl, hb3⟩
      have HB3 := HB2.trans (hb3.mono HB2.size)
      have hres3 := hres2.below hb3
      have hs32 : ((mat eight).map eu).toArray.size = 32 := by simp [mat_length]
      have hone : ((mat eight).map eu).toArray.all (·.oneCell') = true := by simp [Value.oneCell']
      have hi8 := hinf'.out eight
      obtain ⟨R8, hR8⟩ : ∃ R, R = ((mat eight).map eu).toArray := ⟨_, rfl⟩
      rw [← hR8] at hs32 hone hi8
      have hR8' := Lib.hid hR8
      rw [eight_two, ← hR8]
      clear hb3 HB2 hR8
      go_wp2_with (((with_reducible refine wpList_store_row (o := ⟨none, Op.store 46 (.tmp 0) (.tmp 16), _, _, _, none⟩) ?m1 46 (.tmp 0) (.tmp 16) ?m2 w.heap.size R8 ?m3 ?m4 46 ?m5 ?m6 hi8 ?m7 hone ?m8); (case m1 => rfl); (case m2 => rfl); (case m3 => rfl); (case m4 => rfl); (case m6 => exact hres3); (case m7 => simp [hs32])))
      have hst : (w3.setRow w.heap.size R8).heap[w.heap.size]? = some (.cells R8 46 (0, 0)) := by
        have := setRow_heap w3 w.heap.size _ R8 46 (0, 0) hres3
        exact this
      refine bodyPost_ret (v := .agg R8) ?_ rfl ⟨by rw [hR8'.out], below_setRow HB3 (Nat.le_refl _) _⟩
      exact results_cell_row (by rfl) _ _ w.heap.size 46 R8 (0, 0) _ (by rfl) hst Tryd.underlying46 (by rfl) hi8
end Go.Proofs.YtcfgcbcciaeabaaDoor.Byteful
