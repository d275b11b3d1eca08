/- What holds between the rounds of HashPlays: two hashes, the bytes that they took, the digests told. -/
import Derived.Test.YtcelojkecfiocaaDoorFar
import Derived.Test.YtcelojkecfiocaaDoorCalm
namespace Go.Proofs.YtcelojkecfiocaaDoor.Play
open Go.RowKit Go.Proofs.YtcelojkecfiocaaDoor.Bv Go.Proofs.YtcelojkecfiocaaDoor.Mem Go.Proofs.YtcelojkecfiocaaDoor.Keep
open Go.Proofs.YtcelojkecfiocaaDoorW.PrintWords
open Go.Proofs.YtcelojkecfiocaaDoor.Obj Go.Proofs.YtcelojkecfiocaaDoor.Far
open Go.Proofs.YtcelojkecfiocaaDoor.Owned (Own)

/-- Nothing but the blocks that X tells has changed. -/
structure Stay (X : Nat → Prop) (w w' : World) : Prop where
  os : w'.os = w.os
  tape : w'.tape = w.tape
  output : w'.output = w.output
  size : w.heap.size ≤ w'.heap.size
  block : ∀ k, k < w.heap.size → ¬ X k → w'.heap[k]? = w.heap[k]?
section
variable {X : Nat → Prop} {w w' : World}
theorem Stay.of_but {p : Nat} (h : But p w w') : Stay (· = p) w w' := ⟨h.os, h.tape, h.output, h.size, h.block⟩
theorem Stay.of_below (h : Below w.heap.size w w') : Stay (fun _ => False) w w' := ⟨h.os, h.tape, h.output, h.size, fun k hk _ => h.block k hk⟩
theorem Stay.of_grown {row : Option Nat} (h : w.grownBy w' row) : Stay (fun g => row = some g) w w' := ⟨h.os, h.tape, h.output, h.size, fun k hk hn => h.block k hk (fun e => hn e.symm)⟩
theorem Stay.below {B : Nat} (h : Stay X w w') (hX : ∀ g, X g → B ≤ g) (hB : B ≤ w.heap.size) : Below B w w' := ⟨h.os, h.tape, h.output, h.size, fun k hk => h.block k (by omega) (fun hx => by have := hX k hx; omega)⟩
theorem arr_stay {g : Nat} {t : TypeId} {cs : List Value} (h : Stay X w w') (ha : Arr w g t cs) (hg : ¬ X g) : Arr w' g t cs := (h.block g ha.lt hg).trans ha
theorem reads_stay {A : Option Addr} {n : Nat} {l : List UInt8} (h : Stay X w w') (hr : ReadsOf eb 0 w A n l) (hA : 0 < n → ∀ a, A = some a → ¬ X a.block) : ReadsOf eb 0 w' A n l := by
  refine ⟨hr.1, hr.2.1, fun hn => ?_⟩
  obtain ⟨ad, e, hc⟩ := hr.2.2 hn
  refine ⟨ad, e, fun j hj => ?_⟩
  have hcj := hc j hj
  have hl := World.block_lt_of_cell? w _ hcj
  have hne := hA hn ad e
  rw [← hcj]
  refine World.cell?_of_block (h.block _ hl ?_)
  unfold Addr.add
  split <;> exact hne
theorem own_stay {B n s : Nat} {e : TypeId} {v : Value} {xs : List Value} (h : Stay X w w') (ho : w.ownsRow B e s v n xs) (hg : ∀ g, v.ownBlock = some g → ¬ X g) : w'.ownsRow B e s v n xs := by
  refine ⟨ho.1, ?_⟩
  rcases ho.2 with h1 | ⟨g, cap, cur, rfl, hb, hh, h2⟩
  · exact .inl h1
  · exact .inr ⟨g, cap, cur, rfl, hb, (h.block g (Array.getElem?_eq_some_iff.1 hh).1 (hg g rfl)).trans hh, h2⟩
end
theorem HashBy.stay {X F : Nat → Prop} {w w' : World} {p : Nat} {m : List UInt8} (h : HashBy F w p m) (hs : Stay X w w') (hp : ¬ X p) (hF : ∀ b, F b → ¬ X b) : HashBy F w' p m := by
  obtain ⟨A, c, h1, h2, h3⟩ := h.ex
  exact ⟨⟨A, c, arr_stay hs h1 hp, reads_stay hs h2 (fun h0 a e => hF _ (h3 h0 a e)), h3⟩, h.old⟩
theorem HashBy.other {F : Nat → Prop} {w w' : World} {p q : Nat} {m k : List UInt8} (h : HashBy F w q m) (hp : HashAt w p k) (hb : But p w w') (hne : q ≠ p) : HashBy F w' q m := by
  obtain ⟨A, c, h1, h2, h3⟩ := h.ex
  exact ⟨⟨A, c, (hb.block q h1.lt hne).trans h1, Str.reads_hash h2 hp hb, h3⟩, h.old⟩

/-- v is a slice that reads l, out of a block that F tells. -/
def Bytes (F : Nat → Prop) (w : World) (v : Value) (l : List UInt8) : Prop := ∃ A c, v = .slice A l.length c ∧ ReadsOf eb 0 w A l.length l ∧ (0 < l.length → ∀ a, A = some a → F a.block)
theorem Bytes.stay {X F : Nat → Prop} {w w' : World} {v : Value} {l : List UInt8} (h : Bytes F w v l) (hs : Stay X w w') (hF : ∀ b, F b → ¬ X b) : Bytes F w' v l := by
  obtain ⟨A, c, h1, h2, h3⟩ := h
  exact ⟨A, c, h1, reads_stay hs h2 (fun h0 a e => hF _ (h3 h0 a e)), h3⟩
theorem Bytes.mono {F G : Nat → Prop} {w : World} {v : Value} {l : List UInt8} (h : Bytes F w v l) (hFG : ∀ g, g < w.heap.size → F g → G g) : Bytes G w v l := by
  obtain ⟨A, c, h1, h2, h3⟩ := h
  exact ⟨A, c, h1, h2, fun h0 a e => hFG _ (Str.reads_lt h2 h0 a e) (h3 h0 a e)⟩
theorem Bytes.nil (F : Nat → Prop) (w : World) : Bytes F w (.slice none 0 0) [] := ⟨none, 0, rfl, ⟨rfl, Nat.zero_le _, fun h => absurd h (by decide)⟩, fun h => absurd h (by decide)⟩
theorem Bytes.own {F : Nat → Prop} {w : World} {B : Nat} {v : Value} {l : List UInt8} (h : w.ownsRow B 5 1 v l.length (encs eb l)) (hF : ∀ g, B ≤ g → F g) : Bytes F w v l := by
  obtain ⟨A, c, rfl, _, hr⟩ := own_reads_of_le (d := (0 : UInt8)) h
  exact ⟨A, c, rfl, hr, fun _ a e => hF _ (own_far h a e)⟩

/-- What a read byte of the state must not lie in. -/
def Off (bh ba : Nat) (lv : Value) (T : List Value) (b : Nat) : Prop := b ≠ bh ∧ b ≠ ba ∧ lv.ownBlock ≠ some b ∧ ∀ u ∈ T, u.ownBlock ≠ some b
def upd {α : Type} (f : Nat → α) (k : Nat) (x : α) : Nat → α := fun j => if j = k then x else f j
theorem upd_at {α : Type} (f : Nat → α) (k : Nat) (x : α) : upd f k x k = x := by simp [upd]
theorem upd_ne {α : Type} (f : Nat → α) {k j : Nat} (x : α) (h : j ≠ k) : upd f k x j = f j := by simp [upd, h]
/-- The two places of an array. -/
def two {α : Type} (f : Nat → α) : List α := [f 0, f 1]
theorem two_at {α : Type} (f : Nat → α) {k : Nat} (h : k < 2) : (two f)[k]? = some (f k) := by
  have : k = 0 ∨ k = 1 := by omega
  rcases this with rfl | rfl <;> rfl
theorem two_set {α : Type} (f : Nat → α) {k : Nat} (h : k < 2) (x : α) : (two f).set k x = two (upd f k x) := by
  have : k = 0 ∨ k = 1 := by omega
  rcases this with rfl | rfl <;> rfl
def ptr (p : Nat) : Value := .pointer (some ⟨p, 0, none⟩)

structure St (F : Nat → Prop) (w W : World) (bh ba : Nat) (P : Nat → Nat) (L M : Nat → List UInt8) (V : Nat → Value) (lv : Value) (T : List Value) : Prop where
  below : Below w.heap.size w W
  hb : w.heap.size ≤ bh
  ab : w.heap.size ≤ ba
  hs : Arr W bh 37 (two fun k => ptr (P k))
  all : Arr W ba 38 (two V)
  pb : ∀ k, k < 2 → w.heap.size ≤ P k
  pn : ∀ j k, j < 2 → k < 2 → j ≠ k → P j ≠ P k
  hash : ∀ k, k < 2 → HashBy F W (P k) (L k)
  bytes : ∀ k, k < 2 → Bytes F W (V k) (M k)
  long : W.ownsRow w.heap.size 22 1 lv T.length T
  rows : ∀ v ∈ T, ∃ l : List UInt8, l.length = 32 ∧ Own w.heap.size W v l
  apart : ∀ (j k : Nat) (v u : Value), j < k → T[j]? = some v → T[k]? = some u → NeRow v u
  off : ∀ b, F b → Off bh ba lv T b

theorem ty_ne {w : World} {g g' : Nat} {C C' : Array Value} {t t' : TypeId} {fr fr' : Nat × Nat} (h : w.heap[g]? = some (.cells C t fr)) (h' : w.heap[g']? = some (.cells C' t' fr')) (ht : t ≠ t') : g ≠ g' := by
  rintro rfl
  rw [h] at h'
  cases h'
  exact ht rfl

section
variable {F : Nat → Prop} {w W W' : World} {bh ba : Nat} {P : Nat → Nat} {L M : Nat → List UInt8} {V : Nat → Value} {lv : Value} {T : List Value}
theorem St.hcell (h : St F w W bh ba P L M V lv T) (k : Nat) : k < 2 → ∃ C fr, W.heap[P k]? = some (.cells C 59 fr) := fun hk => by
  obtain ⟨A, c, h1, _⟩ := (h.hash k hk).ex
  exact ⟨_, _, h1⟩
theorem St.rcell (h : St F w W bh ba P L M V lv T) {u : Value} (hu : u ∈ T) {b : Nat} (e : u.ownBlock = some b) : w.heap.size ≤ b ∧ b < W.heap.size ∧ ∃ C fr, W.heap[b]? = some (.cells C 5 fr) := by
  obtain ⟨l, _, ho⟩ := h.rows u hu
  exact ho.block e
theorem St.lcell (h : St F w W bh ba P L M V lv T) {b : Nat} (e : lv.ownBlock = some b) : w.heap.size ≤ b ∧ b < W.heap.size ∧ ∃ C fr, W.heap[b]? = some (.cells C 22 fr) := Owned.long_block h.long e
theorem St.fresh (h : St F w W bh ba P L M V lv T) {b : Nat} (hb : W.heap.size ≤ b) : Off bh ba lv T b := by
  refine ⟨?_, ?_, fun e => ?_, fun u hu e => ?_⟩
  · have := h.hs.lt; omega
  · have := h.all.lt; omega
  · have := (h.lcell e).2.1; omega
  · have := (h.rcell hu e).2.1; omega
theorem St.mono {G : Nat → Prop} (h : St F w W bh ba P L M V lv T) (hFG : ∀ g, g < W.heap.size → F g → G g) (hG : ∀ b, G b → Off bh ba lv T b) : St G w W bh ba P L M V lv T :=
  { h with hash := fun k hk => (h.hash k hk).mono hFG, bytes := fun k hk => (h.bytes k hk).mono hFG, off := hG }
/-- Blocks change that the state does not know. -/
theorem St.stay {X : Nat → Prop} (h : St F w W bh ba P L M V lv T) (hs : Stay X W W') (hX : ∀ g, X g → w.heap.size ≤ g ∧ g ≠ bh ∧ g ≠ ba ∧ (∀ k, k < 2 → P k ≠ g) ∧ ¬ F g ∧ lv.ownBlock ≠ some g ∧ ∀ u ∈ T, u.ownBlock ≠ some g) : St F w W' bh ba P L M V lv T := by
  have hF : ∀ b, F b → ¬ X b := fun b hb hx => (hX b hx).2.2.2.2.1 hb
  refine ⟨h.below.trans (hs.below (fun g hg => (hX g hg).1) h.below.size), h.hb, h.ab, arr_stay hs h.hs (fun hx => (hX _ hx).2.1 rfl), arr_stay hs h.all (fun hx => (hX _ hx).2.2.1 rfl), h.pb, h.pn,
    fun k hk => HashBy.stay (h.hash k hk) hs (fun hx => (hX _ hx).2.2.2.1 k hk rfl) hF, fun k hk => (h.bytes k hk).stay hs hF, own_stay hs h.long (fun g e hx => (hX g hx).2.2.2.2.2.1 e), ?_, h.apart, h.off⟩
  intro v hv
  obtain ⟨l, hl, ho⟩ := h.rows v hv
  exact ⟨l, hl, own_stay hs ho (fun g e hx => (hX g hx).2.2.2.2.2.2 v hv e)⟩
theorem St.on (h : St F w W bh ba P L M V lv T) (hb : Below W.heap.size W W') : St F w W' bh ba P L M V lv T := h.stay (Stay.of_below hb) (fun _ hx => hx.elim)
/-- A hash takes some bytes. -/
theorem St.wrote (h : St F w W bh ba P L M V lv T) {i : Nat} (hi : i < 2) {l : List UInt8} (hb : But (P i) W W') (hh : HashBy F W' (P i) l) : St F w W' bh ba P (upd L i l) M V lv T := by
  obtain ⟨C, fr, hC⟩ := h.hcell i hi
  have hs := Stay.of_but hb
  have hat := (h.hash i hi).at
  refine ⟨h.below.trans (hb.below (h.pb i hi) h.below.size), h.hb, h.ab, arr_stay hs h.hs (ty_ne h.hs hC (by decide)), arr_stay hs h.all (ty_ne h.all hC (by decide)), h.pb, h.pn, ?_, ?_, ?_, ?_, h.apart, h.off⟩
  · intro k hk
    by_cases e : k = i
    · subst e; rw [upd_at]; exact hh
    · rw [upd_ne _ _ e]; exact HashBy.other (h.hash k hk) hat hb (h.pn k i hk hi e)
  · intro k hk
    obtain ⟨A, c, e, h2, h3⟩ := h.bytes k hk
    exact ⟨A, c, e, Str.reads_hash h2 hat hb, h3⟩
  · exact own_stay hs h.long fun g e => by obtain ⟨_, _, _, _, h2⟩ := h.lcell e; exact ty_ne h2 hC (by decide)
  · intro v hv
    obtain ⟨l, hl, ho⟩ := h.rows v hv
    exact ⟨l, hl, own_stay hs ho fun g e => by obtain ⟨_, _, _, _, h2⟩ := h.rcell hv e; exact ty_ne h2 hC (by decide)⟩
/-- Other bytes are laid in the second array. -/
theorem St.laid (h : St F w W bh ba P L M V lv T) {i : Nat} (hi : i < 2) {v : Value} {l : List UInt8} (hv : Bytes F W v l) : St F w (W.setCell ⟨ba, i, none⟩ v) bh ba P L (upd M i l) (upd V i v) lv T := by
  have hs := Stay.of_but ((But.refl ba W).setCell i v)
  have hF : ∀ b, F b → ¬ b = ba := fun b hb => (h.off b hb).2.1
  refine ⟨h.below.setCell h.ab _, h.hb, h.ab, arr_stay hs h.hs (ty_ne h.hs h.all (by decide)), ?_, h.pb, h.pn, ?_, ?_, ?_, ?_, h.apart, h.off⟩
  · have := h.all.set i v
    rwa [two_set V hi] at this
  · intro k hk
    obtain ⟨C, fr, hC⟩ := h.hcell k hk
    exact HashBy.stay (h.hash k hk) hs (ty_ne hC h.all (by decide)) hF
  · intro k hk
    by_cases e : k = i
    · subst e; rw [upd_at, upd_at]; exact hv.stay hs hF
    · rw [upd_ne _ _ e, upd_ne _ _ e]; exact (h.bytes k hk).stay hs hF
  · exact own_stay hs h.long fun g e => by obtain ⟨_, _, _, _, h2⟩ := h.lcell e; exact ty_ne h2 h.all (by decide)
  · intro u hu
    obtain ⟨l, hl, ho⟩ := h.rows u hu
    exact ⟨l, hl, own_stay hs ho fun g e => by obtain ⟨_, _, _, _, h2⟩ := h.rcell hu e; exact ty_ne h2 h.all (by decide)⟩
/-- Another hash is laid in the first array. -/
theorem St.cloned (h : St F w W bh ba P L M V lv T) {i q : Nat} (hi : i < 2) {l : List UInt8} (hq : HashBy F W q l) (hqb : w.heap.size ≤ q) (hne : ∀ k, k < 2 → P k ≠ q) : St F w (W.setCell ⟨bh, i, none⟩ (ptr q)) bh ba (upd P i q) (upd L i l) M V lv T := by
  have hs := Stay.of_but ((But.refl bh W).setCell i (ptr q))
  have hF : ∀ b, F b → ¬ b = bh := fun b hb => (h.off b hb).1
  have hqn : q ≠ bh := by
    obtain ⟨A, c, h1, _⟩ := hq.ex
    exact ty_ne h1 h.hs (by decide)
  refine ⟨h.below.setCell h.hb _, h.hb, h.ab, ?_, arr_stay hs h.all (ty_ne h.all h.hs (by decide)), ?_, ?_, ?_, fun k hk => (h.bytes k hk).stay hs hF, ?_, ?_, h.apart, h.off⟩
  · have := h.hs.set i (ptr q)
    rw [two_set (fun k => ptr (P k)) hi] at this
    have e : upd (fun k => ptr (P k)) i (ptr q) = fun k => ptr (upd P i q k) := by
      funext k
      unfold upd
      split <;> rfl
    rwa [e] at this
  · intro k hk
    by_cases e : k = i
    · subst e; rw [upd_at]; exact hqb
    · rw [upd_ne _ _ e]; exact h.pb k hk
  · intro j k hj hk hjk
    by_cases e : j = i
    · subst e; rw [upd_at, upd_ne _ _ (Ne.symm hjk)]; exact Ne.symm (hne k hk)
    · rw [upd_ne _ _ e]
      by_cases e2 : k = i
      · subst e2; rw [upd_at]; exact hne j hj
      · rw [upd_ne _ _ e2]; exact h.pn j k hj hk hjk
  · intro k hk
    by_cases e : k = i
    · subst e; rw [upd_at, upd_at]; exact HashBy.stay hq hs hqn hF
    · rw [upd_ne _ _ e, upd_ne _ _ e]
      obtain ⟨C, fr, hC⟩ := h.hcell k hk
      exact HashBy.stay (h.hash k hk) hs (ty_ne hC h.hs (by decide)) hF
  · exact own_stay hs h.long fun g e => by obtain ⟨_, _, _, _, h2⟩ := h.lcell e; exact ty_ne h2 h.hs (by decide)
  · intro u hu
    obtain ⟨l, hl, ho⟩ := h.rows u hu
    exact ⟨l, hl, own_stay hs ho fun g e => by obtain ⟨_, _, _, _, h2⟩ := h.rcell hu e; exact ty_ne h2 h.hs (by decide)⟩
/-- One more digest is told: the long row has taken it. -/
theorem St.told {n : Nat} {x lv1 : Value} {D : List UInt8} (h : St F w W bh ba P L M V lv T) (hF : ∀ b, F b → x.ownBlock ≠ some b) (hT : ∀ u ∈ T, NeRow u x) (hD : D.length = 32) (hx : Own w.heap.size W x D) (hn : T.length + 1 = n)
    (ho : W'.ownsRow w.heap.size 22 1 lv1 n (T ++ [x])) (hk : Kept W lv T.length W' lv1 n) : St (Off bh ba lv1 (T ++ [x])) w W' bh ba P L M V lv1 (T ++ [x]) := by
  have hgr : ∃ row : Option Nat, W.grownBy W' row ∧ (∀ g, row = some g → lv.ownBlock = some g) ∧ ∀ b, lv1.ownBlock = some b → lv.ownBlock = some b ∨ W.heap.size ≤ b := by
    rcases hk with ⟨A, c, rfl, rfl, hg⟩ | ⟨g, c, rfl, hge, hg⟩
    · exact ⟨_, hg, fun g e => e, fun b e => .inl (by simpa [Value.ownBlock] using e)⟩
    · refine ⟨none, hg, (fun g e => by cases e), fun b e => Or.inr ?_⟩
      simp only [Value.ownBlock, Option.some.injEq] at e
      omega
  obtain ⟨row, hg, hrow, hb1⟩ := hgr
  have hs : Stay (fun g => lv.ownBlock = some g) W W' := ⟨hg.os, hg.tape, hg.output, hg.size, fun k hk hn => hg.block k hk (fun e => hn (hrow k e.symm))⟩
  have hF1 : ∀ b, F b → ¬ lv.ownBlock = some b := fun b hb => (h.off b hb).2.2.1
  have hF2 : ∀ b, b < W'.heap.size → F b → b < W.heap.size → Off bh ba lv1 (T ++ [x]) b := fun b _ hb hlt => by
    obtain ⟨o1, o2, o3, o4⟩ := h.off b hb
    refine ⟨o1, o2, fun e => ?_, fun u hu e => ?_⟩
    · rcases hb1 b e with h1 | h1
      · exact o3 h1
      · omega
    · rcases List.mem_append.1 hu with h1 | h1
      · exact o4 u h1 e
      · rw [List.mem_singleton] at h1; subst h1; exact hF b hb e
  have own5 : ∀ {v : Value} {l : List UInt8}, Own w.heap.size W v l → Own w.heap.size W' v l := fun {v l} hv => own_stay hs hv fun g e e2 => by
    obtain ⟨_, _, C, fr, hC⟩ := hv.block e
    obtain ⟨_, _, C2, fr2, hC2⟩ := h.lcell e2
    exact ty_ne hC hC2 (by decide) rfl
  refine ⟨h.below.trans (hs.below (fun g e => (h.lcell e).1) h.below.size), h.hb, h.ab, arr_stay hs h.hs ?_, arr_stay hs h.all ?_, h.pb, h.pn, ?_, ?_, ?_, ?_, ?_, fun b hb => hb⟩
  · intro e; obtain ⟨_, _, C, fr, hC⟩ := h.lcell e; exact ty_ne h.hs hC (by decide) rfl
  · intro e; obtain ⟨_, _, C, fr, hC⟩ := h.lcell e; exact ty_ne h.all hC (by decide) rfl
  · intro k hk
    obtain ⟨C, fr, hC⟩ := h.hcell k hk
    have h0 : HashBy (fun b => F b ∧ b < W.heap.size) W (P k) (L k) := (h.hash k hk).mono fun g hg hFg => ⟨hFg, hg⟩
    have h1 := HashBy.stay h0 hs (fun e => by obtain ⟨_, _, C2, fr2, hC2⟩ := h.lcell e; exact ty_ne hC hC2 (by decide) rfl) (fun b hb => hF1 b hb.1)
    exact h1.mono fun g hg hFg => hF2 g hg hFg.1 hFg.2
  · intro k hk
    have h0 : Bytes (fun b => F b ∧ b < W.heap.size) W (V k) (M k) := (h.bytes k hk).mono fun g hg hFg => ⟨hFg, hg⟩
    exact (h0.stay hs (fun b hb => hF1 b hb.1)).mono fun g hg hFg => hF2 g hg hFg.1 hFg.2
  · rw [List.length_append]; subst hn; exact ho
  · intro v hv
    rcases List.mem_append.1 hv with h1 | h1
    · obtain ⟨l, hl, hv⟩ := h.rows v h1
      exact ⟨l, hl, own5 hv⟩
    · rw [List.mem_singleton] at h1; subst h1; exact ⟨D, hD, own5 hx⟩
  · intro j k v u hjk hj hk
    have hkl := (List.getElem?_eq_some_iff.1 hk).1
    rw [List.length_append, List.length_singleton] at hkl
    have hjl : j < T.length := by omega
    rw [List.getElem?_append_left hjl] at hj
    by_cases e : k < T.length
    · rw [List.getElem?_append_left e] at hk
      exact h.apart j k v u hjk hj hk
    · have e2 : k = T.length := by omega
      subst e2
      rw [List.getElem?_append_right (Nat.le_refl _), Nat.sub_self] at hk
      simp at hk
      subst hk
      exact hT v (List.mem_of_getElem? hj)
end
end Go.Proofs.YtcelojkecfiocaaDoor.Play
