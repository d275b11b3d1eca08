/- An append to a row of the call's own: in place, or into a new row, all old blocks standing. -/
import Derived.Test.YtcelojkecfiocaaDoorMem
namespace Go.Proofs.YtcelojkecfiocaaDoor.Keep
open Go.RowKit Go.Proofs.YtcelojkecfiocaaDoor.Mem
open Go.Proofs.YtcelojkecfiocaaDoorW.PrintWords

/-- v became v': in its own block, or in a new one, all that was standing as it stood. -/
def Kept (w : World) (v : Value) (n : Nat) (w' : World) (v' : Value) (n' : Nat) : Prop :=
  (∃ A c, v = .slice (some A) n c ∧ v' = .slice (some A) n' c ∧ w.grownBy w' v.ownBlock) ∨
  (∃ g c, v' = .slice (some ⟨g, 0, none⟩) n' c ∧ w.heap.size ≤ g ∧ w.grownBy w' none)

theorem run_append_keep {P : Program} (w : World) (base : Nat) (t ty e : TypeId) (i : TypeInfo) (z : Value) (bytes : Nat) (ht : P.underlying t = some (.slice e)) (hi : P.info? e = some i) (hz : i.zero = some z)
    (hsize : i.size = 1) (hby : i.bytes = bytes) (hzs : z.cells.size = 1)
    (v : Value) (n : Nat) (xs : List Value) (hown : w.ownsRow base e 1 v n xs)
    (a : Addr) (m c : Nat) (news : List Value) (hm : 0 < m) (hl : news.length = m) (hnews : ∀ j u, news[j]? = some u → w.cell? (a.add j) = some u) (h1 : ∀ u ∈ news, u.oneCell' = true)
    (h63 : n + m ≤ maxLen) (hbytes : (n + m) * bytes ≤ 140737488355328) (hbase : base ≤ w.heap.size) :
    ∃ v' w', (Builtin.append_ #[t, t] ty #[v, .slice (some a) m c]).run P w = .ok v' w' ∧ w'.ownsRow base e 1 v' (n + m) (xs ++ news) ∧ Kept w v n w' v' (n + m) := by
  have h63' : n + m ≤ 9223372036854775807 := by simp only [maxLen] at h63; omega
  have hl' : news.length = m * i.size := by rw [hsize]; omega
  obtain ⟨v', w', hr, ho, hg, _⟩ := run_append_own (P := P) w base t ty e i z 1 bytes ht hi hz hsize hby hzs (by omega) v n xs hown a m c news (by omega) hnews h1 h63 hbytes hbase
  refine ⟨v', w', hr, ho, ?_⟩
  rcases hown.2 with ⟨rfl, rfl⟩ | ⟨g, cap, cur, rfl, hbg, hgg, hnc, hcm, hcs, htake⟩
  · have h2 := run_append_nil (P := P) w t ty e i z ht hi hz a m c news hl' hnews hm (by omega) (by rw [hby]; have hb := hbytes; simp only [Nat.zero_add] at hb; omega)
    rw [hr] at h2
    injection h2 with h2 h3
    subst h2 h3
    refine .inr ⟨_, _, by rw [Nat.zero_add], Nat.le_refl _, ⟨rfl, rfl, rfl, by simp, fun k hk _ => heap_alloc_old w.drew _ hk⟩⟩
  · by_cases hroom : n + m ≤ cap
    · have h2 := run_append_room (P := P) w t ty e i ht hi g n cap cur hgg a m c news hl' hnews h1 hroom (by rw [hsize]; omega)
      rw [hr] at h2
      injection h2 with h2 h3
      subst h2
      exact .inl ⟨_, _, rfl, rfl, hg⟩
    · have holds : ∀ j u, xs[j]? = some u → w.cell? ((⟨g, 0, none⟩ : Addr).add j) = some u := hown.cells (g := g) rfl
      have h2 := run_append_grow (P := P) w t ty e i z ht hi hz ⟨g, 0, none⟩ n cap xs (by rw [hsize]; exact hown.1) holds a m c news hl' hnews (by omega) (by omega) (by rw [hby]; exact growslice_fits (by omega) hbytes)
      rw [hr] at h2
      injection h2 with h2 h3
      subst h2 h3
      exact .inr ⟨_, _, rfl, Nat.le_refl _, ⟨rfl, rfl, rfl, by simp, fun k hk _ => heap_alloc_old w.drew _ hk⟩⟩

/-- The same at the walk's operation: the elements stand in a block that the operation before has made. -/
theorem append_keep {P : Program} {W : World} {ops : Array Oper} {rest : List Oper} {o : Oper} {a : Act} {Q : Exit → Act → World → Prop} (base : Nat) (hgd : o.guard = none) (s x : Operand) (t e : TypeId) (z : Value) (bytes : Nat)
    (ho : o.op = .call { callee := .builtin .append, args := #[s, x], argTypes := #[t, t] })
    (ht : P.underlying t = some (.slice e)) (hinfo : (P.info? e).map (fun i => (i.zero, i.size, i.bytes)) = some (some z, 1, bytes)) (hz : z.cells.size = 1) (hb0 : 0 < bytes)
    (v : Value) (n : Nat) (xs ys : List Value) (m : Nat) (hm : ys.length = m) (hm0 : 0 < m) (hs : a.eval s = v) (hx : a.eval x = .slice (some ⟨W.heap.size, 0, none⟩) m m) (h1 : ∀ u ∈ ys, u.oneCell' = true)
    (HO : W.ownsRow base e 1 v n xs) (hbase : base ≤ W.heap.size) (hl : (n + m) * bytes ≤ 140737488355328)
    (h : ∀ v1 w1, w1.ownsRow base e 1 v1 (n + m) (xs ++ ys) → Kept W v n w1 v1 (n + m) → wpList P ops Q rest (a.put o.dst v1) w1) :
    wpList P ops Q (o :: rest) a (W.alloc (.cells ys.toArray e)) := by
  obtain ⟨i0, hi, hzz⟩ := Option.map_eq_some_iff.1 hinfo
  simp only [Prod.mk.injEq] at hzz
  obtain ⟨hz0, hz1, hz2⟩ := hzz
  have hlen : n + m ≤ 140737488355328 := Nat.le_trans (Nat.le_mul_of_pos_right _ hb0) hl
  have hnews := World.news_of_block (w := W.alloc (.cells ys.toArray e)) (B := W.heap.size) (cs := ys.toArray) (t := e) (fr := (0, 0)) (heap_alloc_new W _)
  obtain ⟨v1, w1, hr, hown, hk⟩ := run_append_keep (P := P) (W.alloc (.cells ys.toArray e)) base t o.type e i0 z bytes ht hi hz0 hz1 hz2 hz v n xs (HO.alloc _) ⟨W.heap.size, 0, none⟩ m m ys hm0 hm (by simpa using hnews) h1 (by simp only [maxLen]; omega) hl (by simp; omega)
  have hg0 := World.grownBy_alloc W (.cells ys.toArray e)
  have hk' : Kept W v n w1 v1 (n + m) := by
    rcases hk with ⟨A, c, e1, e2, hg⟩ | ⟨g, c, e2, hge, hg⟩
    · exact .inl ⟨A, c, e1, e2, (hg0 _).trans hg⟩
    · exact .inr ⟨g, c, e2, by simp at hge; omega, (hg0 _).trans hg⟩
  refine wpList_plain hgd fun K hK => ?_
  unfold Oper.wp execOp
  simp only [ho, resolve, invoke, builtin, Sem.run_bind, Sem.run_pure, Result.andThen_ok, List.map_toArray, List.map_cons, List.map_nil, hs, hx, hr]
  exact hK _ _ (h v1 w1 hown hk')
end Go.Proofs.YtcelojkecfiocaaDoor.Keep
