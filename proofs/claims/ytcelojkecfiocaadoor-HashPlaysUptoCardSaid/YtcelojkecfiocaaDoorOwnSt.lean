/- What holds between the rounds of Owned: rows of bytes of the call's own, none in another's block. -/
import Derived.Test.YtcelojkecfiocaaDoorKeep
namespace Go.Proofs.YtcelojkecfiocaaDoor.Owned
open Go.RowKit Go.Proofs.YtcelojkecfiocaaDoor.Bv Go.Proofs.YtcelojkecfiocaaDoor.Mem Go.Proofs.YtcelojkecfiocaaDoor.Keep
open Go.Proofs.YtcelojkecfiocaaDoorW.PrintWords

/-- v is a row of bytes of the call's own. -/
def Own (base : Nat) (w : World) (v : Value) (l : List UInt8) : Prop := w.ownsRow base 5 1 v l.length (encs eb l)
/-- The mark of row i. -/
def mark (i : Nat) : UInt8 := UInt8.ofNat (1 + i % 250)

theorem Own.slice {base : Nat} {w : World} {v : Value} {l : List UInt8} (h : Own base w v l) : ∃ A c, v = .slice A l.length c := own_slice h
theorem Own.block {base : Nat} {w : World} {v : Value} {l : List UInt8} (h : Own base w v l) {g : Nat} (hg : v.ownBlock = some g) : base ≤ g ∧ g < w.heap.size ∧ ∃ C fr, w.heap[g]? = some (.cells C 5 fr) := by
  rcases h.2 with ⟨rfl, _⟩ | ⟨g', cap, cur, rfl, hb, hh, _⟩
  · simp [Value.ownBlock] at hg
  · simp [Value.ownBlock] at hg
    subst hg
    exact ⟨hb, (Array.getElem?_eq_some_iff.1 hh).1, cur, (0, 0), hh⟩
theorem Own.kept {base : Nat} {w w' : World} {v : Value} {l : List UInt8} (h : Own base w v l) {row : Option Nat} (hg : w.grownBy w' row) (hne : ∀ g, row = some g → v.ownBlock ≠ some g) : Own base w' v l := by
  refine World.ownsRow.kept h hg ?_
  cases row with
  | none => cases hv : v.ownBlock <;> simp
  | some g => exact .inr (hne g rfl)
/-- The first cells of a row in the same block. -/
theorem Own.first {base : Nat} {w : World} {A : Addr} {n N c : Nat} {x : UInt8} (h : Own base w (.slice (some A) N c) (List.replicate N x)) (hn : n ≤ N) : Own base w (.slice (some A) n c) (List.replicate n x) := by
  obtain ⟨h1, h2⟩ := h
  rcases h2 with ⟨h2, _⟩ | ⟨g, cap, cur, hv, hb, hh, hc, hm, hs, ht⟩
  · cases h2
  · injection hv with e1 e2 e3
    injection e1 with e1
    subst e1 e3
    rw [List.length_replicate] at hc
    refine ⟨by simp [encs], .inr ⟨g, _, cur, ?_, hb, hh, by rw [List.length_replicate]; omega, hm, hs, ?_⟩⟩
    · rw [List.length_replicate]
    · have h3 := congrArg (List.take n) ht
      rw [List.take_take] at h3
      simp only [List.length_replicate, Nat.mul_one, encs, List.map_replicate, List.take_replicate] at h3 ⊢
      rw [Nat.min_eq_left hn] at h3
      exact h3

/-- All but the row at hand: rows of bytes at i and behind, and in L; none of them in another's block. -/
structure St (base lb : Nat) (w0 w : World) (R : Addr) (vs : List Value) (i : Nat) (lv : Value) (L : List Value) : Prop where
  below : Below base w0 w
  size : lb ≤ w.heap.size
  table : R.block < lb ∧ ∃ C fr, w.heap[R.block]? = some (.cells C 22 fr)
  rows : ∀ (j : Nat) (v : Value), vs[j]? = some v → w.cell? (R.add j) = some v
  late : ∀ (j : Nat) (v : Value), i ≤ j → vs[j]? = some v → ∃ l : List UInt8, l.length ≤ 140737488355319 ∧ Own base w v l
  long : w.ownsRow lb 22 1 lv L.length L
  done : ∀ (t : Nat) (v : Value), L[t]? = some v → ∃ l : List UInt8, Own base w v l ∧ ∀ x ∈ l, x = mark (t / 2)
  apart : ∀ (t : Nat) (v : Value) (j : Nat) (u : Value), L[t]? = some v → i ≤ j → vs[j]? = some u → NeRow v u

/-- No row of the state lies in block g. -/
def Free (g : Nat) (vs : List Value) (i : Nat) (L : List Value) : Prop := (∀ (t : Nat) (u : Value), L[t]? = some u → u.ownBlock ≠ some g) ∧ ∀ (j : Nat) (u : Value), i ≤ j → vs[j]? = some u → u.ownBlock ≠ some g

section
variable {base lb : Nat} {w0 w w' : World} {R : Addr} {vs L : List Value} {i : Nat} {lv : Value}
theorem add_block (R : Addr) (j : Nat) : (R.add j).block = R.block := by unfold Addr.add; split <;> rfl
theorem long_block (h : w.ownsRow lb 22 1 lv L.length L) {g : Nat} (hg : lv.ownBlock = some g) : lb ≤ g ∧ g < w.heap.size ∧ ∃ C fr, w.heap[g]? = some (.cells C 22 fr) := by
  rcases h.2 with ⟨rfl, _⟩ | ⟨g', cap, cur, rfl, hb, hh, _⟩
  · simp [Value.ownBlock] at hg
  · simp [Value.ownBlock] at hg
    subst hg
    exact ⟨hb, (Array.getElem?_eq_some_iff.1 hh).1, cur, (0, 0), hh⟩

/-- A row of bytes changes: the state stands. -/
theorem St.kept (h : St base lb w0 w R vs i lv L) {row : Option Nat} (hg : w.grownBy w' row) (hne : ∀ g, row = some g → base ≤ g ∧ (∃ C fr, w.heap[g]? = some (.cells C 5 fr)) ∧ Free g vs i L) (hbase : base ≤ w.heap.size) :
    St base lb w0 w' R vs i lv L := by
  obtain ⟨hR, C, fr, hC⟩ := h.table
  have hRlt := (Array.getElem?_eq_some_iff.1 hC).1
  have hRe : w'.heap[R.block]? = w.heap[R.block]? := by
    refine hg.block _ hRlt fun e => ?_
    obtain ⟨_, ⟨C', fr', hC'⟩, _⟩ := hne _ e.symm
    rw [hC] at hC'
    cases hC'
  refine ⟨h.below.grown hg hbase (fun g e => (hne g e).1), Nat.le_trans h.size hg.size, ⟨hR, C, fr, hRe.trans hC⟩, ?_, ?_, ?_, ?_, h.apart⟩
  · intro j v hv
    rw [← h.rows j v hv]
    refine World.cell?_of_block ?_
    rw [add_block]
    exact hRe
  · intro j v hj hv
    obtain ⟨l, h1, h2⟩ := h.late j v hj hv
    exact ⟨l, h1, h2.kept hg fun g e => (hne g e).2.2.2 j v hj hv⟩
  · refine h.long.kept hg ?_
    cases hv : lv.ownBlock with
    | none => exact .inl rfl
    | some b =>
      right
      intro e
      obtain ⟨_, ⟨C', fr', hC'⟩, _⟩ := hne b e.symm
      obtain ⟨_, _, C2, fr2, hC2⟩ := long_block h.long hv
      rw [hC'] at hC2
      cases hC2
  · intro t v hv
    obtain ⟨l, h1, h2⟩ := h.done t v hv
    exact ⟨l, h1.kept hg fun g e => (hne g e).2.2.1 t v hv, h2⟩

/-- A new block is none's. -/
theorem St.fresh (h : St base lb w0 w R vs i lv L) {g : Nat} (hg : w.heap.size ≤ g) : Free g vs i L := by
  refine ⟨fun t u hu e => ?_, fun j u hj hu e => ?_⟩
  · obtain ⟨l, h1, _⟩ := h.done t u hu
    have := (h1.block e).2.1
    omega
  · obtain ⟨l, _, h1⟩ := h.late j u hj hu
    have := (h1.block e).2.1
    omega
end

section
variable {base lb : Nat} {w0 w w1 : World} {R : Addr} {vs L : List Value} {i : Nat} {lv v : Value}
theorem St.next (h : St base lb w0 w R vs i lv L) : St base lb w0 w R vs (i + 1) lv L :=
  ⟨h.below, h.size, h.table, h.rows, fun j v hj => h.late j v (by omega), h.long, h.done, fun t v j u ht hj => h.apart t v j u ht (by omega)⟩
/-- The row at hand lies in none of the others' blocks. -/
theorem St.free (h : St base lb w0 w R vs i lv L) (hv : vs[i]? = some v) (hne : ∀ (j k : Nat) (v u : Value), j < k → vs[j]? = some v → vs[k]? = some u → NeRow v u) : ∀ g, v.ownBlock = some g → Free g vs (i + 1) L :=
  fun g hg => ⟨fun t u hu e => h.apart t u i v hu (Nat.le_refl _) hv g e hg, fun j u hj hu => hne i j v u (by omega) hv hu g hg⟩

/-- Nothing but the row v has changed. -/
theorem St.wrote (h : St base lb w0 w R vs i lv L) {l : List UInt8} (hv : Own base w v l) (hf : ∀ g, v.ownBlock = some g → Free g vs i L) (hg : w.grownBy w1 v.ownBlock) (hbase : base ≤ w.heap.size) : St base lb w0 w1 R vs i lv L :=
  h.kept hg (fun g e => ⟨(hv.block e).1, (hv.block e).2.2, hf g e⟩) hbase

/-- The row s at hand, grown out of the row v: in v's own block, or apart from it. -/
def Grew (v s : Value) (n N : Nat) : Prop := (∃ A c, v = .slice (some A) n c ∧ s = .slice (some A) N c) ∨ NeRow s v
structure More (base lb : Nat) (w0 w : World) (R : Addr) (vs : List Value) (i : Nat) (lv : Value) (L : List Value) (v s : Value) (x : UInt8) (n N : Nat) : Prop where
  st : St base lb w0 w R vs i lv L
  row : Own base w v (List.replicate n x)
  more : Own base w s (List.replicate N x)
  free : ∀ g, s.ownBlock = some g → Free g vs i L
  grew : Grew v s n N

theorem More.step {s s1 : Value} {x : UInt8} {n N : Nat} (h : More base lb w0 w R vs i lv L v s x n N) (hbase : base ≤ w.heap.size) (hN : n ≤ N)
    (ho : w1.ownsRow base 5 1 s1 (N + 1) (encs eb (List.replicate N x) ++ [eb x])) (hk : Kept w s N w1 s1 (N + 1)) : More base lb w0 w1 R vs i lv L v s1 x n (N + 1) := by
  have ho1 : Own base w1 s1 (List.replicate (N + 1) x) := by
    have e : encs eb (List.replicate N x) ++ [eb x] = encs eb (List.replicate (N + 1) x) := by
      rw [List.replicate_succ']
      simp [encs]
    rw [e] at ho
    unfold Own
    rw [List.length_replicate]
    exact ho
  rcases hk with ⟨A, c, rfl, rfl, hg⟩ | ⟨g, c, rfl, hge, hg⟩
  · have hst := h.st.wrote h.more h.free hg hbase
    refine ⟨hst, ?_, ho1, fun g e => h.free g (by simpa [Value.ownBlock] using e), ?_⟩
    · rcases h.grew with ⟨A', c', rfl, e⟩ | hne
      · injection e with e1 e2 e3
        injection e1 with e1
        subst e1 e3
        exact ho1.first (by omega)
      · refine h.row.kept hg fun g e => ?_
        exact hne g e
    · rcases h.grew with ⟨A', c', rfl, e⟩ | hne
      · injection e with e1 e2 e3
        injection e1 with e1
        subst e1 e3
        exact .inl ⟨_, _, rfl, rfl⟩
      · exact .inr fun g e => hne g (by simpa [Value.ownBlock] using e)
  · have hst := h.st.kept hg (fun g e => by cases e) hbase
    have hfr := h.st.fresh hge
    refine ⟨hst, h.row.kept hg (fun g e => by cases e), ho1, ?_, .inr ?_⟩
    · intro g' e
      simp only [Value.ownBlock, Option.some.injEq] at e
      subst e
      exact hfr
    · intro g' e e2
      simp only [Value.ownBlock, Option.some.injEq] at e
      subst e
      have := (h.row.block e2).2.1
      omega

/-- The long row takes both. -/
theorem More.long {s lv1 : Value} {x : UInt8} {n N : Nat} (h : More base lb w0 w R vs (i + 1) lv L v s x n N) (hL : L.length = 2 * i) (hx : x = mark i) (hbase : base ≤ lb)
    (ho : w1.ownsRow lb 22 1 lv1 (L.length + 2) (L ++ [s, v])) (hk : Kept w lv L.length w1 lv1 (L.length + 2)) (hv : ∀ g, v.ownBlock = some g → Free g vs (i + 1) L) : St base lb w0 w1 R vs (i + 1) lv1 (L ++ [s, v]) := by
  have hgr : ∃ row : Option Nat, w.grownBy w1 row ∧ ∀ g, row = some g → lb ≤ g ∧ ∃ C fr, w.heap[g]? = some (.cells C 22 fr) := by
    rcases hk with ⟨A, c, rfl, rfl, hg⟩ | ⟨g, c, rfl, hge, hg⟩
    · exact ⟨_, hg, fun g e => ⟨(long_block h.st.long e).1, (long_block h.st.long e).2.2⟩⟩
    · exact ⟨none, hg, fun g e => by cases e⟩
  obtain ⟨row, hg, hrow⟩ := hgr
  have keep : ∀ {u : Value} {l : List UInt8}, Own base w u l → Own base w1 u l := fun {u l} hu => hu.kept hg fun g e e2 => by
    obtain ⟨_, C, fr, hC⟩ := hrow g e
    obtain ⟨_, _, C2, fr2, hC2⟩ := hu.block e2
    rw [hC] at hC2
    cases hC2
  obtain ⟨hR, C, fr, hC⟩ := h.st.table
  have hRe : w1.heap[R.block]? = w.heap[R.block]? := hg.block _ (Array.getElem?_eq_some_iff.1 hC).1 fun e => by
    have := (hrow _ e.symm).1
    omega
  have hcases : ∀ (t : Nat) (u : Value), (L ++ [s, v])[t]? = some u → L[t]? = some u ∨ (t / 2 = i ∧ (u = s ∨ u = v)) := by
    intro t u hu
    rcases Nat.lt_or_ge t L.length with h1 | h1
    · rw [List.getElem?_append_left h1] at hu
      exact .inl hu
    · rw [List.getElem?_append_right h1] at hu
      right
      have h2 : t - L.length = 0 ∨ t - L.length = 1 := by
        have := (List.getElem?_eq_some_iff.1 hu).1
        simp at this
        omega
      rcases h2 with h2 | h2 <;> rw [h2] at hu <;> simp at hu
      · exact ⟨by omega, .inl hu.symm⟩
      · exact ⟨by omega, .inr hu.symm⟩
  refine ⟨h.st.below.grown hg (Nat.le_trans hbase h.st.size) (fun g e => Nat.le_trans hbase (hrow g e).1), Nat.le_trans h.st.size hg.size, ⟨hR, C, fr, hRe.trans hC⟩, ?_, ?_, by simpa using ho, ?_, ?_⟩
  · intro j u hu
    rw [← h.st.rows j u hu]
    refine World.cell?_of_block ?_
    rw [add_block]
    exact hRe
  · intro j u hj hu
    obtain ⟨l, h1, h2⟩ := h.st.late j u hj hu
    exact ⟨l, h1, keep h2⟩
  · intro t u hu
    rcases hcases t u hu with h1 | ⟨h1, rfl | rfl⟩
    · obtain ⟨l, h2, h3⟩ := h.st.done t u h1
      exact ⟨l, keep h2, h3⟩
    · exact ⟨_, keep h.more, fun y hy => by rw [List.eq_of_mem_replicate hy, h1, hx]⟩
    · exact ⟨_, keep h.row, fun y hy => by rw [List.eq_of_mem_replicate hy, h1, hx]⟩
  · intro t u j u' hu hj hu' g e e2
    rcases hcases t u hu with h1 | ⟨_, rfl | rfl⟩
    · exact h.st.apart t u j u' h1 hj hu' g e e2
    · exact (h.free g e).2 j u' hj hu' e2
    · exact (hv g e).2 j u' hj hu' e2
end
end Go.Proofs.YtcelojkecfiocaaDoor.Owned
