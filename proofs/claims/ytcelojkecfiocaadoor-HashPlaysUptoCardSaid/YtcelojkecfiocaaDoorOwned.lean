/- Owned: rows of bytes that the call made lie in memory of their own. -/
import Derived.Test.YtcelojkecfiocaaDoorOwnSt
import Derived.Lib.Hide
namespace Go.Proofs.YtcelojkecfiocaaDoor.Owned
open Go.RowKit Go.Proofs.YtcelojkecfiocaaDoor.Bv Go.Proofs.YtcelojkecfiocaaDoor.Mem Go.Proofs.YtcelojkecfiocaaDoor.Keep
open Go.Proofs.YtcelojkecfiocaaDoorW.PrintWords

theorem info22 : (Tryd.prog.info? 22).map (fun i => (i.zero, i.size, i.bytes)) = some (some (.slice none 0 0), 1, 24) := by kernel_rfl
theorem infoB : (Tryd.prog.info? 5).map (fun i => (i.zero, i.size, i.bytes)) = some (some (.int .u8 0), 1, 1) := by kernel_rfl

theorem mark_tb (i : Nat) : 1 + (i : Int) % 250 = tb (mark i) := by
  unfold tb mark
  rw [UInt8.toNat_ofNat']
  omega
/-- A cell of a row of bytes. -/
theorem Own.at {base : Nat} {w : World} {A : Option Addr} {n c : Nat} {l : List UInt8} (h : Own base w (.slice A n c) l) (hn : l.length = n) (j : Nat) (hj : j < n) :
    ∃ g, A = some ⟨g, 0, none⟩ ∧ w.cell? ⟨g, j, none⟩ = some (eb (Sha.b8 l j)) ∧ w.frozen? ⟨g, j, none⟩ = false := by
  rcases h.2 with ⟨h2, h3⟩ | ⟨g, cap, cur, hv, hb, hh, hc, hm, hs, ht⟩
  · omega
  · injection hv with e1 e2 e3
    refine ⟨g, e1, ?_, frozen_of_row w g j _ 5 hh⟩
    have h4 := h.cells (g := g) (by rw [e1]; rfl) j (eb (Sha.b8 l j)) (by simp [encs, Sha.b8, List.getElem?_eq_getElem (show j < l.length by omega)])
    rwa [add_plain] at h4

theorem Own.short {base : Nat} {w : World} {v : Value} {l : List UInt8} (h : Own base w v l) : l.length ≤ 9223372036854775807 := by
  rcases h.2 with ⟨h2, h3⟩ | ⟨g, cap, cur, hv, hb, hh, hc, hm, hs, ht⟩
  · omega
  · simp only [maxLen] at hm
    omega

/-- A byte laid in a row. -/
theorem Own.set {base : Nat} {w : World} {g n c : Nat} {l : List UInt8} (h : Own base w (.slice (some ⟨g, 0, none⟩) n c) l) (hn : l.length = n) (j : Nat) (x : UInt8) :
    Own base (w.setCell ⟨g, j, none⟩ (eb x)) (.slice (some ⟨g, 0, none⟩) n c) (l.set j x) ∧ w.grownBy (w.setCell ⟨g, j, none⟩ (eb x)) (some g) := by
  subst hn
  have := own_store_of (enc := eb) h (j : Int) x
  simp only [Int.toNat_natCast] at this
  refine ⟨?_, this.2⟩
  unfold Own
  rw [List.length_set]
  exact this.1

/-- The first j bytes are marks. -/
def part (x : UInt8) (l : List UInt8) (j : Nat) : List UInt8 := List.replicate j x ++ l.drop j
theorem part_length (x : UInt8) (l : List UInt8) (j : Nat) (h : j ≤ l.length) : (part x l j).length = l.length := by simp [part]; omega
theorem part_set (x : UInt8) (l : List UInt8) (j : Nat) (h : j < l.length) : (part x l j).set j x = part x l (j + 1) := by
  unfold part
  rw [List.drop_eq_getElem_cons h, set_mid _ _ _ _ j (by simp), List.replicate_succ']
  simp

def Post (base : Nat) (w : World) (e : Ending) (w' : World) : Prop := e = .returned (.bool true) ∧ Below base w w'

set_option maxRecDepth 100000 in
set_option maxHeartbeats 800000 in
theorem owned_any (base : Nat) (R : Addr) (m c : Nat) (vs : List Value) (w : World) (hm : vs.length = m) (hmb : m ≤ 1099511627776) (hbase : base ≤ w.heap.size)
    (hrows : ∀ (j : Nat) (v : Value), vs[j]? = some v → w.cell? (R.add j) = some v) (htab : R.block < w.heap.size ∧ ∃ C fr, w.heap[R.block]? = some (.cells C 22 fr))
    (hown : ∀ (j : Nat) (v : Value), vs[j]? = some v → ∃ l : List UInt8, l.length ≤ 140737488355319 ∧ Own base w v l)
    (hne : ∀ (j k : Nat) (v u : Value), j < k → vs[j]? = some v → vs[k]? = some u → NeRow v u) :
    Calls Tryd.prog 18 #[.slice (some R) m c] w (Post base w) := by
  have hI : St base w.heap.size w w R vs 0 (.slice none 0 0) [] :=
    ⟨Below.refl _ _, Nat.le_refl _, htab, hrows, fun j v _ h => hown j v h, own_nil _ _ _ _, fun t v h => by simp at h, fun t v j u h => by simp at h⟩
  have hne' := Lib.hid hne
  have hml := Lib.hid hm
  clear hrows htab hown hne hm
  go_enter Tryd.func18, Tryd.ntmps18
  go_wp2_with fail
  go_loopg [3, 4, 5, 6, 7, 8] m (fun k s3 s4 s5 s6 s7 s8 wr => ∃ (i : Nat) (L : List Value), i + k = m ∧ s4 = .int .i64 (i : Int) ∧ Hid (L.length = 2 * i) ∧ Hid (St base w.heap.size w wr R vs i s3 L))
  case atStart => exact ⟨0, [], by omega, rfl, rfl, hI⟩
  case round =>
    obtain ⟨i, L, hik, rfl, hL, hS⟩ := hrel
    by_cases hi : i < m
    · obtain ⟨v, hv⟩ : ∃ v, vs[i]? = some v := ⟨vs[i]'(by have := hml.out; omega), List.getElem?_eq_getElem _⟩
      have hci := hS.out.rows i v hv
      obtain ⟨l, hll, hvo⟩ := hS.out.late i v (Nat.le_refl _) hv
      have hF := hS.out.free hv hne'.out
      have hSn := hS.out.next
      obtain ⟨A, cv, hve⟩ := hvo.slice
      subst hve
      have hF' := Lib.hid hF
      have hP0 : Own base wr (.slice A l.length cv) (part (mark i) l 0) := by simpa [part] using hvo
      have hR0 := Lib.hid (And.intro hP0 hSn)
      clear hS hvo hF hSn hP0
      have hbw : base ≤ w.heap.size := hbase
      go_upto_region 7 with fail
      rw [mark_tb i]
      generalize hM : mark i = M at hR0 ⊢
      have hM' := Lib.hid hM
      clear hM
      obtain ⟨k0, hk0⟩ : ∃ k0, k0 = gk := ⟨_, rfl⟩
      go_loopg [6] l.length (fun k s6 wx => ∃ j : Nat, j + k = l.length ∧ s6 = .int .i64 (j : Int) ∧ Hid (Own base wx (.slice A l.length cv) (part M l j) ∧ St base w.heap.size w wx R vs (i + 1) u3 L))
      case atStart => exact ⟨0, by omega, rfl, hR0⟩
      case round =>
        obtain ⟨j, hjk, rfl, hJ⟩ := hrel
        have hci := hJ.out.2.rows i _ hv
        by_cases hj : j < l.length
        · obtain ⟨g, rfl, hcj, hfj⟩ := hJ.out.1.at (part_length M l j (by omega)) j hj
          have hset := hJ.out.1.set (part_length M l j (by omega)) j M
          rw [part_set M l j hj] at hset
          have hst := hJ.out.2.kept hset.2 (fun g' e => by cases e; exact ⟨(hJ.out.1.block rfl).1, (hJ.out.1.block rfl).2.2, hF'.out g rfl⟩) (Nat.le_trans hbase hJ.out.2.size)
          have hR1 := Lib.hid (And.intro hset.1 hst)
          clear hset hst hJ hR0
          go_wp2_with fail
          go_roundg (gk - 1)
          case measure => omega
          case rel => exact ⟨j + 1, by omega, by simp, hR1⟩
        · obtain rfl : j = l.length := by omega
          have hR1 : More base w.heap.size w wr R vs (i + 1) u3 L (.slice A l.length cv) (.slice A l.length cv) M l.length l.length := by
            have h1 : Own base wr (.slice A l.length cv) (List.replicate l.length M) := by
              have := hJ.out.1
              simpa [part] using this
            refine ⟨hJ.out.2, h1, h1, hF'.out, ?_⟩
            cases A with
            | none => exact .inr (ne_nil' _)
            | some A => exact .inl ⟨A, cv, rfl, rfl⟩
          have hR2 := Lib.hid hR1
          clear hR1 hJ hR0
          go_wp2_with fail
          obtain ⟨k1, hk1⟩ : ∃ k1, k1 = gk := ⟨_, rfl⟩
          go_loopg [7, 8] 9 (fun k s7 s8 wx => ∃ q N : Nat, q + k = 9 ∧ s8 = .int .i64 (q : Int) ∧ N = l.length + q ∧ Hid (More base w.heap.size w wx R vs (i + 1) u3 L (.slice A l.length cv) s7 M l.length N))
          case atStart => exact ⟨0, l.length, by omega, rfl, rfl, hR2⟩
          case round =>
            obtain ⟨q, N, hqk, rfl, hN, hJ⟩ := hrel
            have hbx : base ≤ wr.heap.size := Nat.le_trans hbase hJ.out.st.size
            by_cases hq : q < 9
            · have hHO : Hid (wr.ownsRow base 5 1 u7 N (encs eb (List.replicate N M))) := by
                have := hJ.out.more
                unfold Own at this
                rwa [List.length_replicate] at this
              clear hR2
              go_wp2_with (at_builtin; (with_reducible refine append_keep (o := ⟨some 48, _, _, _, _, _⟩) (base) ?ka0 (.tmp 45) (.tmp 47) 22 5 (.int .u8 0) 1 ?ka1 Tryd.underlying22 infoB ?ka2 ?ka3 (u7) (N) (encs eb (List.replicate N M)) ([eb M]) 1 ?ka4 ?ka5 ?ka6 ?ka7 ?ka8 ?ka9 ?ka10 ?ka11 ?ka12); (case ka0 => rfl); (case ka1 => rfl); (case ka2 => rfl); (case ka3 => omega); (case ka4 => rfl); (case ka5 => omega); (case ka6 => rfl); (case ka7 => rfl); (case ka8 => (simp; rfl)); (case ka9 => exact hHO.out); (case ka10 => exact hbx); (case ka11 => simp only [Nat.mul_one]; omega); intro v1 w1 ho hk)
              have hst := Lib.hid (hJ.out.step hbx (by omega) ho hk)
              clear ho hk hHO hJ
              go_wp2_with fail
              go_roundg (gk - 1)
              case measure => omega
              case rel => exact ⟨q + 1, N + 1, by omega, by simp, by omega, hst⟩
            · obtain rfl : q = 9 := by omega
              have hci := hJ.out.st.rows i _ hv
              obtain ⟨A7, c7, e7⟩ := hJ.out.more.slice
              rw [List.length_replicate] at e7
              subst e7
              subst hN
              have hHO : Hid (wr.ownsRow w.heap.size 22 1 u3 L.length L) := hJ.out.st.long
              have hbx : w.heap.size ≤ wr.heap.size := hJ.out.st.size
              have hJ' := Lib.hid hJ
              clear hR2 hJ
              go_wp2_with (at_builtin; (with_reducible refine append_keep (o := ⟨some 56, _, _, _, _, _⟩) (w.heap.size) ?kb0 (.tmp 49) (.tmp 55) 27 22 (.slice none 0 0) 24 ?kb1 Tryd.underlying27 info22 ?kb2 ?kb3 (u3) (L.length) (L) ([.slice A7 (l.length + 9) c7, .slice A l.length cv]) 2 ?kb4 ?kb5 ?kb6 ?kb7 ?kb8 ?kb9 ?kb10 ?kb11 ?kb12); (case kb0 => rfl); (case kb1 => rfl); (case kb2 => rfl); (case kb3 => omega); (case kb4 => rfl); (case kb5 => omega); (case kb6 => rfl); (case kb7 => rfl); (case kb8 => (simp; exact ⟨rfl, rfl⟩)); (case kb9 => exact hHO.out); (case kb10 => exact hbx); (case kb11 => have := hL.out; omega); intro v1 w1 ho hk)
              have hst := Lib.hid (hJ'.out.out.long hL.out hM'.out.symm hbase ho hk hF'.out)
              have hL2 : Hid ((L ++ [Value.slice A7 (l.length + 9) c7, Value.slice A l.length cv]).length = 2 * (i + 1)) := by
                have := hL.out
                show (L ++ _).length = _
                simp
                omega
              clear ho hk hHO hJ'
              go_wp2_with fail
              go_roundg (k0 - 1)
              case measure => omega
              case rel => exact ⟨i + 1, L ++ [Value.slice A7 (l.length + 9) c7, Value.slice A l.length cv], by omega, by simp, hL2, hst⟩
    · obtain ⟨A3, c3, e3⟩ := own_slice hS.out.long
      subst e3
      have hLb : L.length ≤ 2199023255552 := by have := hL.out; omega
      obtain ⟨W1, hW1⟩ : ∃ W1, W1 = wr := ⟨_, rfl⟩
      rw [← hW1] at hS ⊢
      clear hW1
      have hS2 := hS
      clear hS hI
      go_wp2_with fail
      go_loopg [9, 10] L.length (fun k s9 s10 wx => ∃ t : Nat, t + k = L.length ∧ s9 = .int .i64 (t : Int) ∧ wx = W1)
      case atStart => exact ⟨0, by omega, rfl, rfl⟩
      case round =>
        obtain ⟨t, htk, rfl, rfl⟩ := hrel
        by_cases ht : t < L.length
        · obtain ⟨u, hu⟩ : ∃ u, L[t]? = some u := ⟨L[t], List.getElem?_eq_getElem _⟩
          have hcu : ∃ g3, A3 = some ⟨g3, 0, none⟩ ∧ wr.cell? ⟨g3, t, none⟩ = some u := by
            rcases hS2.out.long.2 with ⟨e, h0⟩ | ⟨g, cap, cur, hve, _⟩
            · omega
            · injection hve with e1 e2 e3
              refine ⟨g, e1, ?_⟩
              have := hS2.out.long.cells (g := g) (by rw [e1]; rfl) t u hu
              rwa [add_plain] at this
          obtain ⟨g3, rfl, hct⟩ := hcu
          obtain ⟨lu, hou, hmk⟩ := hS2.out.done t u hu
          obtain ⟨Au, cu, eu⟩ := hou.slice
          subst eu
          have hlub : lu.length ≤ 9223372036854775807 := hou.short
          have hou' := Lib.hid hou
          have hmk' := Lib.hid hmk
          clear hou hmk
          obtain ⟨k0, hk0⟩ : ∃ k0, k0 = gk := ⟨_, rfl⟩
          obtain ⟨W2, hW2⟩ : ∃ W2, W2 = wr := ⟨_, rfl⟩
          rw [← hW2] at hS2 hct hou' ⊢
          have hW3 := Lib.hid hW2
          clear hW2
          go_wp2_with fail
          go_loopg [10] lu.length (fun k s10 wx => ∃ j : Nat, j + k = lu.length ∧ s10 = .int .i64 (j : Int) ∧ wx = W2)
          case atStart => exact ⟨0, by omega, rfl, rfl⟩
          case round =>
            obtain ⟨j, hjk, rfl, rfl⟩ := hrel
            by_cases hj : j < lu.length
            · obtain ⟨gu, rfl, hcj, _⟩ := hou'.out.at rfl j hj
              have e1 : Sha.b8 lu j = mark (t / 2) := hmk'.out _ (by simp [Sha.b8, List.getElem?_eq_getElem hj])
              have e2 : eb (Sha.b8 lu j) = .int .u8 (1 + (t : Int) / 2 % 250) := by
                rw [e1]
                show Value.int .u8 (tb (mark (t / 2))) = _
                rw [← mark_tb]
                congr 1
              rw [e2] at hcj
              clear e1 e2
              go_wp2_with fail
              go_roundg (gk - 1)
              case measure => omega
              case rel => exact ⟨j + 1, by omega, by simp, rfl⟩
            · go_wp2_with fail
              go_roundg (k0 - 1)
              case measure => omega
              case rel => exact ⟨t + 1, by omega, by simp, hW3.out⟩
        · go_wp2_with fail
          go_ret
          exact ⟨rfl, hS2.out.below⟩
end Go.Proofs.YtcelojkecfiocaaDoor.Owned
