/- seal.Key and seal.Token. Conditions: lengths below 2^47. -/
import Derived.Test.YtcelojkecfiocaaDoorRefSeal
namespace Go.Proofs.YtcelojkecfiocaaDoor.Key
open Go.RowKit Go.Proofs.YtcelojkecfiocaaDoor.Bv Go.Proofs.YtcelojkecfiocaaDoor.Mem
open Go.Proofs.YtcelojkecfiocaaDoorW.PrintWords
open Go.Proofs.YtcelojkecfiocaaDoor.Changed (Tabs RTabs)
open Go.Proofs.YtcelojkecfiocaaDoor.Pad (sb sb_length)
open Go.Proofs.YtcelojkecfiocaaDoor.Mac (mac mac_length MacPost)
open Go.Proofs.YtcelojkecfiocaaDoor.RefFilled (info5)
open Go.Proofs.YtcelojkecfiocaaDoor.HSum (reads_new)
open Go.Proofs.YtcelojkecfiocaaDoor.Str
open Go.Proofs.YtcelojkecfiocaaDoor.SealP

def Say (r : List UInt8) (c : Int) (w : World) (e : Ending) (w' : World) : Prop :=
  e = .returned (.tuple #[.string (str r), .int .i64 c]) ∧ Below w.heap.size w w'
def dev : List UInt8 := [100, 101, 118, 105, 99, 101]
def two (d : Int) : List UInt8 := [UInt8.ofNat (d.toNat / 256), UInt8.ofNat d.toNat]
def keyP (k : List UInt8) (d : Int) : List UInt8 × Int := if k.length ≤ 200 then (if 0 ≤ d ∧ d ≤ 65535 then (mac k (dev ++ two d), 0) else ([], 1)) else ([], 2)
def tok : List UInt8 := [116, 111, 107, 101, 110]
def tokP (k t : List UInt8) : List UInt8 × Int := if k.length ≤ 200 then (if 1 ≤ t.length ∧ t.length ≤ 64 then ((mac k (tok ++ t)).take 8, 0) else ([], 1)) else ([], 2)
theorem str_nil : (⟨#[]⟩ : ByteArray) = str [] := rfl

/-- An append that must make a new row. -/
theorem append_grow {P : Program} {W : World} {ops : Array Oper} {rest : List Oper} {o : Oper} {a : Act} {Q : Exit → Act → World → Prop} (hgd : o.guard = none) (s x : Operand) (t e : TypeId) (z : Value) (bytes : Nat)
    (ho : o.op = .call { callee := .builtin .append, args := #[s, x], argTypes := #[t, t] })
    (ht : P.underlying t = some (.slice e)) (hinfo : (P.info? e).map (fun i => (i.zero, i.size, i.bytes)) = some (some z, 1, bytes)) (hz : z.cells.size = 1) (hb0 : 0 < bytes)
    {α : Type} (enc : α → Value) (d : α) (b A : Addr) (n n0 m c : Nat) (xs ys : List α) (hs : a.eval s = .slice (some b) n n0) (hx : a.eval x = .slice (some A) m c)
    (hxs : ReadsOf enc d W (some b) n xs) (hys : ReadsOf enc d W (some A) m ys) (hg : n0 < n + m) (hl : (n + m) * bytes ≤ 140737488355328)
    (h : ∀ v1 w1, w1.ownsRow W.heap.size e 1 v1 (xs ++ ys).length (encs enc (xs ++ ys)) → Below W.heap.size W w1 → wpList P ops Q rest (a.put o.dst v1) w1) :
    wpList P ops Q (o :: rest) a W := by
  obtain ⟨i0, hi, hzz⟩ := Option.map_eq_some_iff.1 hinfo
  simp only [Prod.mk.injEq] at hzz
  obtain ⟨hz0, hz1, hz2⟩ := hzz
  have hlen : n + m ≤ 140737488355328 := Nat.le_trans (Nat.le_mul_of_pos_right _ hb0) hl
  have cells : ∀ (b : Addr) (n : Nat) (xs : List α), ReadsOf enc d W (some b) n xs → ∀ j v, (encs enc xs)[j]? = some v → W.cell? (b.add j) = some v := by
    intro b n xs hr j v hv
    obtain ⟨u, hu, rfl⟩ : ∃ u, xs[j]? = some u ∧ enc u = v := by simpa [encs] using hv
    have hj : j < xs.length := (List.getElem?_eq_some_iff.1 hu).1
    obtain ⟨ad, e1, hc⟩ := hr.2.2 (by have := hr.1; omega)
    injection e1 with e1
    subst e1
    rw [hc j (by have := hr.1; omega)]
    simp [List.getD, hu]
  have hr := run_append_grow (P := P) W t o.type e i0 z ht hi hz0 b n n0 (encs enc xs) (by rw [hz1, encs_length, hxs.1, Nat.mul_one]) (cells b n xs hxs) A m c (encs enc ys) (by rw [hz1, encs_length, hys.1, Nat.mul_one]) (cells A m ys hys) hg (by omega) (by rw [hz2]; exact growslice_fits hg hl)
  have hge := grownCap_ge W (n + m) n0 e
  have hcm : grownCap W (n + m) n0 e ≤ maxLen := grownCap_le_maxLen W (n + m) n0 e (by simp only [maxLen]; omega)
  refine wpList_plain hgd fun K hK => ?_
  unfold Oper.wp execOp
  simp only [ho, resolve, invoke, builtin, Sem.run_bind, Sem.run_pure, Result.andThen_ok, List.map_toArray, List.map_cons, List.map_nil, hs, hx, hr]
  refine hK _ _ (h _ _ ?_ ?_)
  · have hl2 : (xs ++ ys).length = n + m := by rw [List.length_append, hxs.1, hys.1]
    rw [hl2]
    refine ⟨by rw [encs_length, hl2, Nat.mul_one], .inr ⟨_, _, _, rfl, Nat.le_refl _, heap_alloc_new W.drew _, hge, hcm, ?_, ?_⟩⟩
    · simp only [Array.size_append, List.size_toArray, size_zeroCells, hz, encs_length, hxs.1, hys.1, Nat.mul_one]
      omega
    · simp only [Array.toList_append, List.append_assoc, Nat.mul_one]
      rw [← List.append_assoc]
      have e1 : (encs enc xs ++ encs enc ys).length = n + m := by rw [List.length_append, encs_length, encs_length, hxs.1, hys.1]
      rw [← e1, List.take_left]
      simp [encs]
  · exact (Below.refl _ _).drew.alloc (Nat.le_refl _) _

theorem two_cells (d : Int) (h0 : 0 ≤ d) (h6 : d ≤ 65535) : ((two d).map eb).toArray = #[.int .u8 (d / 256), .int .u8 (d % 256)] := by
  have e1 : ((d.toNat / 256 : Nat) : Int) % 256 = d / 256 := by omega
  have e2 : ((d.toNat : Nat) : Int) % 256 = d % 256 := by omega
  have t1 : tb (UInt8.ofNat (d.toNat / 256)) = d / 256 := by
    unfold tb
    rw [UInt8.toNat_ofNat']
    omega
  have t2 : tb (UInt8.ofNat d.toNat) = d % 256 := by
    unfold tb
    rw [UInt8.toNat_ofNat']
    omega
  show #[Value.int .u8 (tb (UInt8.ofNat (d.toNat / 256))), .int .u8 (tb (UInt8.ofNat d.toNat))] = _
  rw [t1, t2]
/-- The world in which the bytes of a device stand. -/
def devWorld (w : World) (d : Int) : World := (w.alloc (Obj.cells #[Value.int .u8 100, .int .u8 101, .int .u8 118, .int .u8 105, .int .u8 99, .int .u8 101] 5 (6, 7))).alloc (Obj.cells #[Value.int .u8 (d / 256), Value.int .u8 (d % 256)] 5)
theorem dev_reads (w : World) (d : Int) (h0 : 0 ≤ d) (h6 : d ≤ 65535) : ReadsOf eb 0 (devWorld w d) (some ⟨w.heap.size, 0, none⟩) 6 dev ∧ ReadsOf eb 0 (devWorld w d) (some ⟨w.heap.size + 1, 0, none⟩) 2 (two d) ∧ Below w.heap.size w (devWorld w d) := by
  have hn1 := reads_mark w dev (6, 7) (by decide)
  have hb1 : Below w.heap.size w (w.alloc (Obj.cells (dev.map eb).toArray 5 (6, 7))) := (Below.refl _ _).alloc (Nat.le_refl _) _
  have hn2 := reads_new (w.alloc (Obj.cells (dev.map eb).toArray 5 (6, 7))) (two d) (by simp [two])
  have hb2 : Below (w.alloc (Obj.cells (dev.map eb).toArray 5 (6, 7))).heap.size (w.alloc (Obj.cells (dev.map eb).toArray 5 (6, 7))) ((w.alloc (Obj.cells (dev.map eb).toArray 5 (6, 7))).alloc (Obj.cells ((two d).map eb).toArray 5)) := (Below.refl _ _).alloc (Nat.le_refl _) _
  have e : (w.alloc (Obj.cells (dev.map eb).toArray 5 (6, 7))).alloc (Obj.cells ((two d).map eb).toArray 5) = devWorld w d := by rw [two_cells d h0 h6]; rfl
  have h3 := hn1.below hb2
  have h4 := hb1.trans (hb2.mono hb1.size)
  rw [e] at hn2 h3 h4
  have es : (w.alloc (Obj.cells (dev.map eb).toArray 5 (6, 7))).heap.size = w.heap.size + 1 := by simp
  rw [es] at hn2
  exact ⟨h3, hn2, h4⟩

set_option maxRecDepth 100000 in
set_option maxHeartbeats 1600000 in
theorem key_any (s : ByteArray) (d : Int) (w : World) (hT : Tabs w) (hs : s.size ≤ 140737488351232) (hd1 : -9223372036854775808 ≤ d) (hd2 : d ≤ 9223372036854775807) :
    Calls Tryd.prog 32 #[.string s, .int .i64 d] w (Say (keyP (sb s) d).1 (keyP (sb s) d).2 w) := by
  have hsl := sb_length s
  go_enter Tryd.func32, Tryd.ntmps32
  go_wp2_with fail
  refine (Mac.may_any s w (by omega)).mono ?_
  rintro e w1 ⟨rfl, rfl⟩
  by_cases h : s.size ≤ 200
  · rw [decide_eq_true h]
    by_cases h0 : d < 0
    · have hp' := Lib.hid (show keyP (sb s) d = ([], 1) by rw [keyP, if_pos (by omega), if_neg (by omega)])
      go_wp2_with fail
      go_ret2
      unfold Say
      rw [hp'.out]
      exact ⟨rfl, Below.refl _ _⟩
    · by_cases h6 : 65535 < d
      · have hp' := Lib.hid (show keyP (sb s) d = ([], 1) by rw [keyP, if_pos (by omega), if_neg (by omega)])
        go_wp2_with fail
        go_ret2
        unfold Say
        rw [hp'.out]
        exact ⟨rfl, Below.refl _ _⟩
      · have hp' := Lib.hid (show keyP (sb s) d = (mac (sb s) (dev ++ two d), 0) by rw [keyP, if_pos (by omega), if_pos (by omega)])
        obtain ⟨hx1, hx2, hxb⟩ := dev_reads w d (by omega) (by omega)
        have hTx := hT.below hxb
        have hSx := hxb.size
        have hx1' := Lib.hid hx1
        have hx2' := Lib.hid hx2
        have hxb' := Lib.hid hxb
        clear hx1 hx2 hxb hT
        have ew : (w.alloc (Obj.cells #[Value.int .u8 100, .int .u8 101, .int .u8 118, .int .u8 105, .int .u8 99, .int .u8 101] 5 (6, 7))).alloc (Obj.cells #[Value.int .u8 (d / 256), Value.int .u8 (d % 256)] 5) = devWorld w d := rfl
        go_wp2_with (first | (at_builtin; (with_reducible refine append_grow (o := ⟨some 26, _, _, _, _, _⟩) ?q1x0 (.tmp 19) (.tmp 25) 22 5 (.int .u8 0) 1 ?q1x1 Tryd.underlying22 info5 ?q1x2 ?q1x3 eb 0 ⟨w.heap.size, 0, none⟩ ⟨w.heap.size + 1, 0, none⟩ 6 6 2 2 dev (two d) ?q1x5 ?q1x6 hx1'.out hx2'.out ?q1x7 ?q1x8 ?q1x9); (case q1x0 => rfl); (case q1x1 => rfl); (case q1x2 => rfl); (case q1x3 => omega); (case q1x5 => rfl); (case q1x6 => rfl); (case q1x7 => omega); (case q1x8 => omega); intro v1 w1 hown hb1; have hB1 := hxb'.out.trans (hb1.mono hSx); have hT1 := hTx.below hb1; obtain ⟨A1, c1, rfl, _, hr1⟩ := own_reads_of_le (d := (0 : UInt8)) hown; have hS1 := hB1.size; clear hown hb1 hTx) | (go_at_call 40; refine (Mac.mac_any s A1 8 c1 (dev ++ two d) w1 hT1 hs hr1 (by omega)).mono ?_; rintro e w2 ⟨v2, rfl, ho2, hb2⟩; obtain ⟨M, hM⟩ : ∃ M, M = mac (sb s) (dev ++ two d) := ⟨_, rfl⟩; rw [← hM] at ho2; obtain ⟨A2, c2, rfl, hc2, hr2⟩ := own_reads_of_le (d := (0 : UInt8)) ho2; have sx := string_of (c := c2) hr2; have hM' := Lib.hid hM; clear hM ho2 hr2))
        go_ret2
        unfold Say
        rw [hp'.out, ← hM'.out]
        exact ⟨rfl, hB1.trans (hb2.mono hS1)⟩
  · have hp' := Lib.hid (show keyP (sb s) d = ([], 2) by rw [keyP, if_neg (by omega)])
    rw [decide_eq_false h]
    go_wp2_with fail
    go_ret2
    unfold Say
    rw [hp'.out]
    exact ⟨rfl, Below.refl _ _⟩
end Go.Proofs.YtcelojkecfiocaaDoor.Key
