/- Owned once more, with a word on what it leaves alone: every block of none of its rows. -/
import Derived.Test.YtcelojkecfiocaaDoorOwned
namespace Go.Proofs.YtcelojkecfiocaaDoor.Owned.Calm
open Go.RowKit Go.Proofs.YtcelojkecfiocaaDoor.Bv Go.Proofs.YtcelojkecfiocaaDoor.Mem Go.Proofs.YtcelojkecfiocaaDoor.Keep
open Go.Proofs.YtcelojkecfiocaaDoorW.PrintWords

/-- All but the row at hand: rows of bytes at i and behind, and in L; none of them in another's block. -/
structure St (base lb : Nat) (w0 w : World) (R : Addr) (vs : List Value) (i : Nat) (lv : Value) (L : List Value) : Prop where
  below : Below base w0 w
  calm : ∀ k, k < lb → (∀ v ∈ vs, v.ownBlock ≠ some k) → w.heap[k]? = w0.heap[k]?
  size : lb ≤ w.heap.size
  table : R.block < lb ∧ ∃ C fr, w.heap[R.block]? = some (.cells C 22 fr)
  rows : ∀ (j : Nat) (v : Value), vs[j]? = some v → w.cell? (R.add j) = some v
  late : ∀ (j : Nat) (v : Value), i ≤ j → vs[j]? = some v → ∃ l : List UInt8, l.length ≤ 140737488355319 ∧ Own base w v l
  long : w.ownsRow lb 22 1 lv L.length L
  done : ∀ (t : Nat) (v : Value), L[t]? = some v → ∃ l : List UInt8, Own base w v l ∧ ∀ x ∈ l, x = mark (t / 2)
  apart : ∀ (t : Nat) (v : Value) (j : Nat) (u : Value), L[t]? = some v → i ≤ j → vs[j]? = some u → NeRow v u

/-- No row of the state lies in block g. -/
def Free (lb g : Nat) (vs : List Value) (i : Nat) (L : List Value) : Prop := (lb ≤ g ∨ ∃ v ∈ vs, v.ownBlock = some g) ∧ (∀ (t : Nat) (u : Value), L[t]? = some u → u.ownBlock ≠ some g) ∧ ∀ (j : Nat) (u : Value), i ≤ j → vs[j]? = some u → u.ownBlock ≠ some g

section
variable {base lb : Nat} {w0 w w' : World} {R : Addr} {vs L : List Value} {i : Nat} {lv : Value}
/-- A row of bytes changes: the state stands. -/
theorem St.kept (h : St base lb w0 w R vs i lv L) {row : Option Nat} (hg : w.grownBy w' row) (hne : ∀ g, row = some g → base ≤ g ∧ (∃ C fr, w.heap[g]? = some (.cells C 5 fr)) ∧ Free lb g vs i L) (hbase : base ≤ w.heap.size) :
    St base lb w0 w' R vs i lv L := by
  obtain ⟨hR, C, fr, hC⟩ := h.table
  have hRlt := (Array.getElem?_eq_some_iff.1 hC).1
  have hRe : w'.heap[R.block]? = w.heap[R.block]? := by
    refine hg.block _ hRlt fun e => ?_
    obtain ⟨_, ⟨C', fr', hC'⟩, _⟩ := hne _ e.symm
    rw [hC] at hC'
    cases hC'
  refine ⟨h.below.grown hg hbase (fun g e => (hne g e).1), ?_, Nat.le_trans h.size hg.size, ⟨hR, C, fr, hRe.trans hC⟩, ?_, ?_, ?_, ?_, h.apart⟩
  · intro k hk hn
    refine Eq.trans (hg.block k (Nat.lt_of_lt_of_le hk h.size) fun e => ?_) (h.calm k hk hn)
    rcases (hne k e.symm).2.2.1 with h1 | ⟨v, hv, e1⟩
    · omega
    · exact hn v hv e1
  · intro j v hv
    rw [← h.rows j v hv]
    refine World.cell?_of_block ?_
    rw [add_block]
    exact hRe
  · intro j v hj hv
    obtain ⟨l, h1, h2⟩ := h.late j v hj hv
    exact ⟨l, h1, h2.kept hg fun g e => (hne g e).2.2.2.2 j v hj hv⟩
  · refine h.long.kept hg ?_
    cases hv : lv.ownBlock with
    | none => exact .inl rfl
    | some b =>
      right
      intro e
      obtain ⟨_, ⟨C', fr', hC'⟩, _⟩ := hne b e.symm
      obtain ⟨_, _, C2, fr2, hC2⟩ := long_block h.long hv
      rw [hC'] at hC2
      cases hC2
  · intro t v hv
    obtain ⟨l, h1, h2⟩ := h.done t v hv
    exact ⟨l, h1.kept hg fun g e => (hne g e).2.2.2.1 t v hv, h2⟩

/-- A new block is none's. -/
theorem St.fresh (h : St base lb w0 w R vs i lv L) {g : Nat} (hg : w.heap.size ≤ g) : Free lb g vs i L := by
  refine ⟨.inl (Nat.le_trans h.size hg), fun t u hu e => ?_, fun j u hj hu e => ?_⟩
  · obtain ⟨l, h1, _⟩ := h.done t u hu
    have := (h1.block e).2.1
    omega
  · obtain ⟨l, _, h1⟩ := h.late j u hj hu
    have := (h1.block e).2.1
    omega
end

section
variable {base lb : Nat} {w0 w w1 : World} {R : Addr} {vs L : List Value} {i : Nat} {lv v : Value}
theorem St.next (h : St base lb w0 w R vs i lv L) : St base lb w0 w R vs (i + 1) lv L :=
  ⟨h.below, h.calm, h.size, h.table, h.rows, fun j v hj => h.late j v (by omega), h.long, h.done, fun t v j u ht hj => h.apart t v j u ht (by omega)⟩
/-- The row at hand lies in none of the others' blocks. -/
theorem St.free (h : St base lb w0 w R vs i lv L) (hv : vs[i]? = some v) (hne : ∀ (j k : Nat) (v u : Value), j < k → vs[j]? = some v → vs[k]? = some u → NeRow v u) : ∀ g, v.ownBlock = some g → Free lb g vs (i + 1) L :=
  fun g hg => ⟨.inr ⟨v, List.mem_of_getElem? hv, hg⟩, fun t u hu e => h.apart t u i v hu (Nat.le_refl _) hv g e hg, fun j u hj hu => hne i j v u (by omega) hv hu g hg⟩

/-- Nothing but the row v has changed. -/
theorem St.wrote (h : St base lb w0 w R vs i lv L) {l : List UInt8} (hv : Own base w v l) (hf : ∀ g, v.ownBlock = some g → Free lb g vs i L) (hg : w.grownBy w1 v.ownBlock) (hbase : base ≤ w.heap.size) : St base lb w0 w1 R vs i lv L :=
  h.kept hg (fun g e => ⟨(hv.block e).1, (hv.block e).2.2, hf g e⟩) hbase

structure More (base lb : Nat) (w0 w : World) (R : Addr) (vs : List Value) (i : Nat) (lv : Value) (L : List Value) (v s : Value) (x : UInt8) (n N : Nat) : Prop where
  st : St base lb w0 w R vs i lv L
  row : Own base w v (List.replicate n x)
  more : Own base w s (List.replicate N x)
  free : ∀ g, s.ownBlock = some g → Free lb g vs i L
  grew : Grew v s n N

theorem More.step {s s1 : Value} {x : UInt8} {n N : Nat} (h : More base lb w0 w R vs i lv L v s x n N) (hbase : base ≤ w.heap.size) (hN : n ≤ N)
    (ho : w1.ownsRow base 5 1 s1 (N + 1) (encs eb (List.replicate N x) ++ [eb x])) (hk : Kept w s N w1 s1 (N + 1)) : More base lb w0 w1 R vs i lv L v s1 x n (N + 1) := by
  have ho1 : Own base w1 s1 (List.replicate (N + 1) x) := by
    have e : encs eb (List.replicate N x) ++ [eb x] = encs eb (List.replicate (N + 1) x) := by
      rw [List.replicate_succ']
      simp [encs]
    rw [e] at ho
    unfold Own
    rw [List.length_replicate]
    exact ho
  rcases hk with ⟨A, c, rfl, rfl, hg⟩ | ⟨g, c, rfl, hge, hg⟩
  · have hst := h.st.wrote h.more h.free hg hbase
    refine ⟨hst, ?_, ho1, fun g e => h.free g (by simpa [Value.ownBlock] using e), ?_⟩
    · rcases h.grew with ⟨A', c', rfl, e⟩ | hne
      · injection e with e1 e2 e3
        injection e1 with e1
        subst e1 e3
        exact ho1.first (by omega)
      · refine h.row.kept hg fun g e => ?_
        exact hne g e
    · rcases h.grew with ⟨A', c', rfl, e⟩ | hne
      · injection e with e1 e2 e3
        injection e1 with e1
        subst e1 e3
        exact .inl ⟨_, _, rfl, rfl⟩
      · exact .inr fun g e => hne g (by simpa [Value.ownBlock] using e)
  · have hst := h.st.kept hg (fun g e => by cases e) hbase
    have hfr := h.st.fresh hge
    refine ⟨hst, h.row.kept hg (fun g e => by cases e), ho1, ?_, .inr ?_⟩
    · intro g' e
      simp only [Value.ownBlock, Option.some.injEq] at e
      subst e
      exact hfr
    · intro g' e e2
      simp only [Value.ownBlock, Option.some.injEq] at e
      subst e
      have := (h.row.block e2).2.1
      omega

/-- The long row takes both. -/
theorem More.long {s lv1 : Value} {x : UInt8} {n N : Nat} (h : More base lb w0 w R vs (i + 1) lv L v s x n N) (hL : L.length = 2 * i) (hx : x = mark i) (hbase : base ≤ lb)
    (ho : w1.ownsRow lb 22 1 lv1 (L.length + 2) (L ++ [s, v])) (hk : Kept w lv L.length w1 lv1 (L.length + 2)) (hv : ∀ g, v.ownBlock = some g → Free lb g vs (i + 1) L) : St base lb w0 w1 R vs (i + 1) lv1 (L ++ [s, v]) := by
  have hgr : ∃ row : Option Nat, w.grownBy w1 row ∧ ∀ g, row = some g → lb ≤ g ∧ ∃ C fr, w.heap[g]? = some (.cells C 22 fr) := by
    rcases hk with ⟨A, c, rfl, rfl, hg⟩ | ⟨g, c, rfl, hge, hg⟩
    · exact ⟨_, hg, fun g e => ⟨(long_block h.st.long e).1, (long_block h.st.long e).2.2⟩⟩
    · exact ⟨none, hg, fun g e => by cases e⟩
  obtain ⟨row, hg, hrow⟩ := hgr
  have keep : ∀ {u : Value} {l : List UInt8}, Own base w u l → Own base w1 u l := fun {u l} hu => hu.kept hg fun g e e2 => by
    obtain ⟨_, C, fr, hC⟩ := hrow g e
    obtain ⟨_, _, C2, fr2, hC2⟩ := hu.block e2
    rw [hC] at hC2
    cases hC2
  obtain ⟨hR, C, fr, hC⟩ := h.st.table
  have hRe : w1.heap[R.block]? = w.heap[R.block]? := hg.block _ (Array.getElem?_eq_some_iff.1 hC).1 fun e => by
    have := (hrow _ e.symm).1
    omega
  have hcases : ∀ (t : Nat) (u : Value), (L ++ [s, v])[t]? = some u → L[t]? = some u ∨ (t / 2 = i ∧ (u = s ∨ u = v)) := by
    intro t u hu
    rcases Nat.lt_or_ge t L.length with h1 | h1
    · rw [List.getElem?_append_left h1] at hu
      exact .inl hu
    · rw [List.getElem?_append_right h1] at hu
      right
      have h2 : t - L.length = 0 ∨ t - L.length = 1 := by
        have := (List.getElem?_eq_some_iff.1 hu).1
        simp at this
        omega
      rcases h2 with h2 | h2 <;> rw [h2] at hu <;> simp at hu
      · exact ⟨by omega, .inl hu.symm⟩
      · exact ⟨by omega, .inr hu.symm⟩
  refine ⟨h.st.below.grown hg (Nat.le_trans hbase h.st.size) (fun g e => Nat.le_trans hbase (hrow g e).1), ?_, Nat.le_trans h.st.size hg.size, ⟨hR, C, fr, hRe.trans hC⟩, ?_, ?_, by simpa using ho, ?_, ?_⟩
  · intro k hk hn
    refine Eq.trans (hg.block k (Nat.lt_of_lt_of_le hk h.st.size) fun e => ?_) (h.st.calm k hk hn)
    have := (hrow k e.symm).1
    omega
  · intro j u hu
    rw [← h.st.rows j u hu]
    refine World.cell?_of_block ?_
    rw [add_block]
    exact hRe
  · intro j u hj hu
    obtain ⟨l, h1, h2⟩ := h.st.late j u hj hu
    exact ⟨l, h1, keep h2⟩
  · intro t u hu
    rcases hcases t u hu with h1 | ⟨h1, rfl | rfl⟩
    · obtain ⟨l, h2, h3⟩ := h.st.done t u h1
      exact ⟨l, keep h2, h3⟩
    · exact ⟨_, keep h.more, fun y hy => by rw [List.eq_of_mem_replicate hy, h1, hx]⟩
    · exact ⟨_, keep h.row, fun y hy => by rw [List.eq_of_mem_replicate hy, h1, hx]⟩
  · intro t u j u' hu hj hu' g e e2
    rcases hcases t u hu with h1 | ⟨_, rfl | rfl⟩
    · exact h.st.apart t u j u' h1 hj hu' g e e2
    · exact (h.free g e).2.2 j u' hj hu' e2
    · exact (hv g e).2.2 j u' hj hu' e2
end

def Post (base : Nat) (vs : List Value) (w : World) (e : Ending) (w' : World) : Prop := e = .returned (.bool true) ∧ Below base w w' ∧ ∀ k, k < w.heap.size → (∀ v ∈ vs, v.ownBlock ≠ some k) → w'.heap[k]? = w.heap[k]?

set_option maxRecDepth 100000 in
set_option maxHeartbeats 800000 in
theorem owned_any (base : Nat) (R : Addr) (m c : Nat) (vs : List Value) (w : World) (hm : vs.length = m) (hmb : m ≤ 1099511627776) (hbase : base ≤ w.heap.size)
    (hrows : ∀ (j : Nat) (v : Value), vs[j]? = some v → w.cell? (R.add j) = some v) (htab : R.block < w.heap.size ∧ ∃ C fr, w.heap[R.block]? = some (.cells C 22 fr))
    (hown : ∀ (j : Nat) (v : Value), vs[j]? = some v → ∃ l : List UInt8, l.length ≤ 140737488355319 ∧ Own base w v l)
    (hne : ∀ (j k : Nat) (v u : Value), j < k → vs[j]? = some v → vs[k]? = some u → NeRow v u) :
    Calls Tryd.prog 18 #[.slice (some R) m c] w (Post base vs w) := by
  have hI : St base w.heap.size w w R vs 0 (.slice none 0 0) [] :=
    ⟨Below.refl _ _, fun _ _ _ => rfl, Nat.le_refl _, htab, hrows, fun j v _ h => hown j v h, own_nil _ _ _ _, fun t v h => by simp at h, fun t v j u h => by simp at h⟩
  have hne' := Lib.hid hne
  have hml := Lib.hid hm
  clear hrows htab hown hne hm
  go_enter Tryd.func18, Tryd.ntmps18
  go_wp2_with fail
  go_loopg [3, 4, 5, 6, 7, 8] m (fun k s3 s4 s5 s6 s7 s8 wr => ∃ (i : Nat) (L : List Value), i + k = m ∧ s4 = .int .i64 (i : Int) ∧ Hid (L.length = 2 * i) ∧ Hid (St base w.heap.size w wr R vs i s3 L))
  case atStart => exact ⟨0, [], by omega, rfl, rfl, hI⟩
  case round =>
    obtain ⟨i, L, hik, rfl, hL, hS⟩ := hrel
    by_cases hi : i < m
    · obtain ⟨v, hv⟩ : ∃ v, vs[i]? = some v := ⟨vs[i]'(by have := hml.out; omega), List.getElem?_eq_getElem _⟩
      have hci := hS.out.rows i v hv
      obtain ⟨l, hll, hvo⟩ := hS.out.late i v (Nat.le_refl _) hv
      have hF := hS.out.free hv hne'.out
      have hSn := hS.out.next
      obtain ⟨A, cv, hve⟩ := hvo.slice
      subst hve
      have hF' := Lib.hid hF
      have hP0 : Own base wr (.slice A l.length cv) (part (mark i) l 0) := by simpa [part] using hvo
      have hR0 := Lib.hid (And.intro hP0 hSn)
      clear hS hvo hF hSn hP0
      have hbw : base ≤ w.heap.size := hbase
      go_upto_region 7 with fail
      rw [mark_tb i]
      generalize hM : mark i = M at hR0 ⊢
      have hM' := Lib.hid hM
      clear hM
      obtain ⟨k0, hk0⟩ : ∃ k0, k0 = gk := ⟨_, rfl⟩
      go_loopg [6] l.length (fun k s6 wx => ∃ j : Nat, j + k = l.length ∧ s6 = .int .i64 (j : Int) ∧ Hid (Own base wx (.slice A l.length cv) (part M l j) ∧ St base w.heap.size w wx R vs (i + 1) u3 L))
      case atStart => exact ⟨0, by omega, rfl, hR0⟩
      case round =>
        obtain ⟨j, hjk, rfl, hJ⟩ := hrel
        have hci := hJ.out.2.rows i _ hv
        by_cases hj : j < l.length
        · obtain ⟨g, rfl, hcj, hfj⟩ := hJ.out.1.at (part_length M l j (by omega)) j hj
          have hset := hJ.out.1.set (part_length M l j (by omega)) j M
          rw [part_set M l j hj] at hset
          have hst := hJ.out.2.kept hset.2 (fun g' e => by cases e; exact ⟨(hJ.out.1.block rfl).1, (hJ.out.1.block rfl).2.2, hF'.out g rfl⟩) (Nat.le_trans hbase hJ.out.2.size)
          have hR1 := Lib.hid (And.intro hset.1 hst)
          clear hset hst hJ hR0
          go_wp2_with fail
          go_roundg (gk - 1)
          case measure => omega
          case rel => exact ⟨j + 1, by omega, by simp, hR1⟩
        · obtain rfl : j = l.length := by omega
          have hR1 : More base w.heap.size w wr R vs (i + 1) u3 L (.slice A l.length cv) (.slice A l.length cv) M l.length l.length := by
            have h1 : Own base wr (.slice A l.length cv) (List.replicate l.length M) := by
              have := hJ.out.1
              simpa [part] using this
            refine ⟨hJ.out.2, h1, h1, hF'.out, ?_⟩
            cases A with
            | none => exact .inr (ne_nil' _)
            | some A => exact .inl ⟨A, cv, rfl, rfl⟩
          have hR2 := Lib.hid hR1
          clear hR1 hJ hR0
          go_wp2_with fail
          obtain ⟨k1, hk1⟩ : ∃ k1, k1 = gk := ⟨_, rfl⟩
          go_loopg [7, 8] 9 (fun k s7 s8 wx => ∃ q N : Nat, q + k = 9 ∧ s8 = .int .i64 (q : Int) ∧ N = l.length + q ∧ Hid (More base w.heap.size w wx R vs (i + 1) u3 L (.slice A l.length cv) s7 M l.length N))
          case atStart => exact ⟨0, l.length, by omega, rfl, rfl, hR2⟩
          case round =>
            obtain ⟨q, N, hqk, rfl, hN, hJ⟩ := hrel
            have hbx : base ≤ wr.heap.size := Nat.le_trans hbase hJ.out.st.size
            by_cases hq : q < 9
            · have hHO : Hid (wr.ownsRow base 5 1 u7 N (encs eb (List.replicate N M))) := by
                have := hJ.out.more
                unfold Own at this
                rwa [List.length_replicate] at this
              clear hR2
              go_wp2_with (at_builtin; (with_reducible refine append_keep (o := ⟨some 48, _, _, _, _, _⟩) (base) ?ka0 (.tmp 45) (.tmp 47) 22 5 (.int .u8 0) 1 ?ka1 Tryd.underlying22 infoB ?ka2 ?ka3 (u7) (N) (encs eb (List.replicate N M)) ([eb M]) 1 ?ka4 ?ka5 ?ka6 ?ka7 ?ka8 ?ka9 ?ka10 ?ka11 ?ka12); (case ka0 => rfl); (case ka1 => rfl); (case ka2 => rfl); (case ka3 => omega); (case ka4 => rfl); (case ka5 => omega); (case ka6 => rfl); (case ka7 => rfl); (case ka8 => (simp; rfl)); (case ka9 => exact hHO.out); (case ka10 => exact hbx); (case ka11 => simp only [Nat.mul_one]; omega); intro v1 w1 ho hk)
              have hst := Lib.hid (hJ.out.step hbx (by omega) ho hk)
              clear ho hk hHO hJ
              go_wp2_with fail
              go_roundg (gk - 1)
              case measure => omega
              case rel => exact ⟨q + 1, N + 1, by omega, by simp, by omega, hst⟩
            · obtain rfl : q = 9 := by omega
              have hci := hJ.out.st.rows i _ hv
              obtain ⟨A7, c7, e7⟩ := hJ.out.more.slice
              rw [List.length_replicate] at e7
              subst e7
              subst hN
              have hHO : Hid (wr.ownsRow w.heap.size 22 1 u3 L.length L) := hJ.out.st.long
              have hbx : w.heap.size ≤ wr.heap.size := hJ.out.st.size
              have hJ' := Lib.hid hJ
              clear hR2 hJ
              go_wp2_with (at_builtin; (with_reducible refine append_keep (o := ⟨some 56, _, _, _, _, _⟩) (w.heap.size) ?kb0 (.tmp 49) (.tmp 55) 27 22 (.slice none 0 0) 24 ?kb1 Tryd.underlying27 info22 ?kb2 ?kb3 (u3) (L.length) (L) ([.slice A7 (l.length + 9) c7, .slice A l.length cv]) 2 ?kb4 ?kb5 ?kb6 ?kb7 ?kb8 ?kb9 ?kb10 ?kb11 ?kb12); (case kb0 => rfl); (case kb1 => rfl); (case kb2 => rfl); (case kb3 => omega); (case kb4 => rfl); (case kb5 => omega); (case kb6 => rfl); (case kb7 => rfl); (case kb8 => (simp; exact ⟨rfl, rfl⟩)); (case kb9 => exact hHO.out); (case kb10 => exact hbx); (case kb11 => have := hL.out; omega); intro v1 w1 ho hk)
              have hst := Lib.hid (hJ'.out.out.long hL.out hM'.out.symm hbase ho hk hF'.out)
              have hL2 : Hid ((L ++ [Value.slice A7 (l.length + 9) c7, Value.slice A l.length cv]).length = 2 * (i + 1)) := by
                have := hL.out
                show (L ++ _).length = _
                simp
                omega
              clear ho hk hHO hJ'
              go_wp2_with fail
              go_roundg (k0 - 1)
              case measure => omega
              case rel => exact ⟨i + 1, L ++ [Value.slice A7 (l.length + 9) c7, Value.slice A l.length cv], by omega, by simp, hL2, hst⟩
    · obtain ⟨A3, c3, e3⟩ := own_slice hS.out.long
      subst e3
      have hLb : L.length ≤ 2199023255552 := by have := hL.out; omega
      obtain ⟨W1, hW1⟩ : ∃ W1, W1 = wr := ⟨_, rfl⟩
      rw [← hW1] at hS ⊢
      clear hW1
      have hS2 := hS
      clear hS hI
      go_wp2_with fail
      go_loopg [9, 10] L.length (fun k s9 s10 wx => ∃ t : Nat, t + k = L.length ∧ s9 = .int .i64 (t : Int) ∧ wx = W1)
      case atStart => exact ⟨0, by omega, rfl, rfl⟩
      case round =>
        obtain ⟨t, htk, rfl, rfl⟩ := hrel
        by_cases ht : t < L.length
        · obtain ⟨u, hu⟩ : ∃ u, L[t]? = some u := ⟨L[t], List.getElem?_eq_getElem _⟩
          have hcu : ∃ g3, A3 = some ⟨g3, 0, none⟩ ∧ wr.cell? ⟨g3, t, none⟩ = some u := by
            rcases hS2.out.long.2 with ⟨e, h0⟩ | ⟨g, cap, cur, hve, _⟩
            · omega
            · injection hve with e1 e2 e3
              refine ⟨g, e1, ?_⟩
              have := hS2.out.long.cells (g := g) (by rw [e1]; rfl) t u hu
              rwa [add_plain] at this
          obtain ⟨g3, rfl, hct⟩ := hcu
          obtain ⟨lu, hou, hmk⟩ := hS2.out.done t u hu
          obtain ⟨Au, cu, eu⟩ := hou.slice
          subst eu
          have hlub : lu.length ≤ 9223372036854775807 := hou.short
          have hou' := Lib.hid hou
          have hmk' := Lib.hid hmk
          clear hou hmk
          obtain ⟨k0, hk0⟩ : ∃ k0, k0 = gk := ⟨_, rfl⟩
          obtain ⟨W2, hW2⟩ : ∃ W2, W2 = wr := ⟨_, rfl⟩
          rw [← hW2] at hS2 hct hou' ⊢
          have hW3 := Lib.hid hW2
          clear hW2
          go_wp2_with fail
          go_loopg [10] lu.length (fun k s10 wx => ∃ j : Nat, j + k = lu.length ∧ s10 = .int .i64 (j : Int) ∧ wx = W2)
          case atStart => exact ⟨0, by omega, rfl, rfl⟩
          case round =>
            obtain ⟨j, hjk, rfl, rfl⟩ := hrel
            by_cases hj : j < lu.length
            · obtain ⟨gu, rfl, hcj, _⟩ := hou'.out.at rfl j hj
              have e1 : Sha.b8 lu j = mark (t / 2) := hmk'.out _ (by simp [Sha.b8, List.getElem?_eq_getElem hj])
              have e2 : eb (Sha.b8 lu j) = .int .u8 (1 + (t : Int) / 2 % 250) := by
                rw [e1]
                show Value.int .u8 (tb (mark (t / 2))) = _
                rw [← mark_tb]
                congr 1
              rw [e2] at hcj
              clear e1 e2
              go_wp2_with fail
              go_roundg (gk - 1)
              case measure => omega
              case rel => exact ⟨j + 1, by omega, by simp, rfl⟩
            · go_wp2_with fail
              go_roundg (k0 - 1)
              case measure => omega
              case rel => exact ⟨t + 1, by omega, by simp, hW3.out⟩
        · go_wp2_with fail
          go_ret
          exact ⟨rfl, hS2.out.below, hS2.out.calm⟩
end Go.Proofs.YtcelojkecfiocaaDoor.Owned.Calm
