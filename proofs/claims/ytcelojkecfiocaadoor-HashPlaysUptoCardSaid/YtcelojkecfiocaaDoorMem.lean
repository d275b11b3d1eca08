/- Rows of cells in memory, as lists: what a walk over arrays and byte slices needs. No conditions. -/
import Derived.Test.YtcelojkecfiocaaDoorBv
import Derived.Test.YtcelojkecfiocaaDoorWWords
namespace Go.Proofs.YtcelojkecfiocaaDoor.Mem
open Go.RowKit Go.Proofs.YtcelojkecfiocaaDoor.Bv
open Go.Proofs.YtcelojkecfiocaaDoorW.PrintWords

/-- A word's value, a byte's value. -/
abbrev eu (x : BitVec 32) : Value := .int .u32 (tn x)
abbrev eb (c : UInt8) : Value := .int .u8 (tb c)

/-- Block g is a row of just these cells. -/
def Arr (w : World) (g : Nat) (t : TypeId) (cs : List Value) : Prop := w.heap[g]? = some (.cells cs.toArray t (0, 0))

section
variable {w w1 : World} {g : Nat} {t : TypeId} {cs : List Value}
theorem Arr.cell (h : Arr w g t cs) (i : Nat) : w.cell? ⟨g, i, none⟩ = cs[i]? := by
  rw [cell_of_row w g i _ t (0, 0) h]; simp
theorem Arr.free (h : Arr w g t cs) (i : Nat) : w.frozen? ⟨g, i, none⟩ = false := frozen_of_row w g i _ t h
theorem Arr.lt (h : Arr w g t cs) : g < w.heap.size := (Array.getElem?_eq_some_iff.1 h).1
theorem Arr.set (h : Arr w g t cs) (i : Nat) (v : Value) : Arr (w.setCell ⟨g, i, none⟩ v) g t (cs.set i v) := by
  have := heap_setCell_same w g i _ t v h
  unfold Arr
  rw [this]
  simp
theorem Arr.other (h : Arr w g t cs) {a : Addr} (ha : g ≠ a.block) (v : Value) : Arr (w.setCell a v) g t cs := (Below.heap_setCell w a v g ha).trans h
theorem Arr.alloc (h : Arr w g t cs) (o : Obj) : Arr (w.alloc o) g t cs := (Below.heap_alloc w o g h.lt).trans h
theorem Arr.drew (h : Arr w g t cs) : Arr w.drew g t cs := h
theorem Arr.drewN (h : Arr w g t cs) (n : Nat) : Arr (w.drewN n) g t cs := h
theorem Arr.below (h : Arr w g t cs) (hb : Below w.heap.size w w1) : Arr w1 g t cs := (hb.block g h.lt).trans h
theorem Arr.new (w : World) (t : TypeId) (cs : List Value) : Arr (w.alloc (.cells cs.toArray t)) w.heap.size t cs := heap_alloc_new w _
theorem Arr.setRow (h : Arr w g t cs) (cs' : List Value) : Arr (w.setRow g cs'.toArray) g t cs' := setRow_heap w g _ cs'.toArray t (0, 0) h
theorem Arr.setRow_other (h : Arr w g t cs) {g' : Nat} (hg : g ≠ g') (cs' : Array Value) : Arr (w.setRow g' cs') g t cs := (Go.setRow_other w g' g cs' (by omega)).trans h
end

theorem size_setCell (w : World) (a : Addr) (v : Value) : (w.setCell a v).heap.size = w.heap.size := by simp [World.setCell]
theorem below_setCell {B : Nat} {w w1 : World} (h : Below B w w1) {p : Addr} (hp : B ≤ p.block) (u : Value) : Below B w (w1.setCell p u) := h.setCell hp u
theorem below_setRow {B : Nat} {w w1 : World} (h : Below B w w1) {g : Nat} (hg : B ≤ g) (cs : Array Value) : Below B w (w1.setRow g cs) :=
  h.trans ⟨rfl, rfl, rfl, by simp, fun k hk => setRow_other w1 g k cs (by omega)⟩
theorem below_drewN {B : Nat} {w w1 : World} (h : Below B w w1) (n : Nat) : Below B w (w1.drewN n) := ⟨h.os, h.tape, h.output, h.size, h.block⟩

/-- A part of a readable slice: from lo to hi, where lo lies below the capacity: its address is known. -/
theorem cut_lh {P : Program} (t e : TypeId) {i : TypeInfo} (ht : P.underlying t = some (.slice e)) (hi : P.info? e = some i) (hsz : i.size = 1)
    (ad : Addr) (n c lo hi' : Nat) (L H : Int) (hL : L = lo) (hH : H = hi') (h1 : lo ≤ hi') (h2 : hi' ≤ c) (h3 : lo < c) (W : World) :
    (Instr.slice t (.slice (some ad) n c) (some (.int .i64 L)) (some (.int .i64 H)) none).run P W = .ok (.slice (some (ad.add lo)) (hi' - lo) (c - lo)) W := by
  subst hL hH
  have hel : P.elem t = e := by simp [Program.elem, ht]
  have hu : P.underlying t = some (.slice (P.elem t)) := by rw [hel]; exact ht
  rw [run_slice_lh W t (some ad) n c hu .i64 .i64 lo hi' (by omega) (by omega) (by omega), hel]
  simp [sizeOf, typeInfo, hi, hsz, sliced, Result.andThen, show ¬ c = lo by omega]

theorem reads_cell {w : World} {ad : Addr} {n : Nat} {l : List UInt8} (h : ReadsOf eb 0 w (some ad) n l) (j : Nat) (hj : j < n) : w.cell? (ad.add j) = some (eb (Sha.b8 l j)) := by
  obtain ⟨ad', e, hc⟩ := h.2.2 (by omega)
  injection e with e
  subst e
  exact hc j hj
theorem reads_some {w : World} {A : Option Addr} {n : Nat} {l : List UInt8} (h : ReadsOf eb 0 w A n l) (hn : 0 < n) : ∃ ad, A = some ad := by
  obtain ⟨ad, e, _⟩ := h.2.2 hn
  exact ⟨ad, e⟩
theorem addr_add (ad : Addr) (i j : Nat) : (ad.add i).add j = ad.add (i + j) := by
  unfold Addr.add
  by_cases h1 : i = 0 <;> by_cases h2 : j = 0 <;> simp [h1, h2, Nat.add_assoc]

theorem addr_pos (ad : Addr) (j : Nat) (h : 0 < j) : ad.add j = ⟨ad.block, ad.off + j, none⟩ := by
  unfold Addr.add
  rw [if_neg (by omega)]

section
variable {α : Type} {P : Program} {ops : Array Oper} {rest : List Oper} {o : Oper} {a : Act} {Q : Exit → Act → World → Prop}
/-- One element appended to a slice of the call's own: the value as the walk spells it. -/
theorem append_one {w0 W : World} (enc : α → Value) (base : Nat) (hgd : o.guard = none) (s x : Operand) (t e : TypeId) (z : Value) (bytes : Nat)
    (ho : o.op = .call { callee := .builtin .append, args := #[s, x], argTypes := #[t, t] })
    (ht : P.underlying t = some (.slice e)) (hinfo : (P.info? e).map (fun i => (i.zero, i.size, i.bytes)) = some (some z, 1, bytes)) (hz : z.cells.size = 1) (hb0 : 0 < bytes)
    (v : Value) (xs : List α) (y : α) (Y : Value) (hY : Y = enc y) (hs : a.eval s = v) (hx : a.eval x = .slice (some ⟨W.heap.size, 0, none⟩) 1 1) (h1 : (enc y).oneCell' = true)
    (HO : W.ownsRow base e 1 v xs.length (encs enc xs)) (HB : Below base w0 W) (hbase : base ≤ W.heap.size) (hl : (xs.length + 1) * bytes ≤ 140737488355328)
    (h : ∀ v1 w1, w1.ownsRow base e 1 v1 (xs ++ [y]).length (encs enc (xs ++ [y])) → Below base w0 w1 → W.grownBy w1 v.ownBlock → (v1.ownBlock = v.ownBlock ∨ ∃ b, v1.ownBlock = some b ∧ W.heap.size ≤ b) → wpList P ops Q rest (a.put o.dst v1) w1) :
    wpList P ops Q (o :: rest) a (W.alloc (.cells #[Y] e)) := by
  subst hY
  exact print_append_of enc base hgd s x t e z bytes ho ht hinfo hz hb0 v xs y hs hx h1 HO HB hbase hl h
end

theorem own_setRow {w : World} {base : Nat} {e : TypeId} {size n : Nat} {v : Value} {xs : List Value} (h : w.ownsRow base e size v n xs) {g : Nat} (hg : g < base) (cs : Array Value) : (w.setRow g cs).ownsRow base e size v n xs := by
  obtain ⟨h1, h2⟩ := h
  refine ⟨h1, ?_⟩
  rcases h2 with h2 | ⟨g', cap, cur, hv, hg', hh, r⟩
  · exact .inl h2
  · exact .inr ⟨g', cap, cur, hv, hg', (setRow_other w g g' cs (by omega)).trans hh, r⟩
/-- A whole array read out of a variable of the program's own. -/
theorem reads_part {w : World} {g n cap base : Nat} {e : TypeId} {F : List UInt8} (h : w.ownsRow base e 1 (.slice (some ⟨g, 0, none⟩) n cap) n (encs eb F)) (lo hi : Nat) (h1 : lo ≤ hi) (h2 : hi ≤ n) (h3 : lo < n) :
    ReadsOf eb 0 w (some ((⟨g, 0, none⟩ : Addr).add lo)) (hi - lo) ((F.drop lo).take (hi - lo)) := by
  obtain ⟨A, c, e1, hr⟩ := own_reads_of (d := (0 : UInt8)) h
  have hc := own_le h
  injection e1 with e1 e2 e3
  subst e1 e3
  have hd := hr.drop_ lo (by omega) hc
  rw [if_neg (by omega)] at hd
  exact hd.take_ (hi - lo) (by omega)

/-- A list of values, one place further on. -/
theorem set_mid {α : Type} (a : List α) (x y : α) (b : List α) (i : Nat) (h : a.length = i) : (a ++ x :: b).set i y = a ++ y :: b := by
  subst h; simp
end Go.Proofs.YtcelojkecfiocaaDoor.Mem
