/- Strings of byte rows: what string(b) gives. No conditions. -/
import Derived.Test.YtcelojkecfiocaaDoorClone
import Derived.Lib.SlBytesConst
namespace Go.Proofs.YtcelojkecfiocaaDoor.Str
open Go.RowKit Go.Proofs.YtcelojkecfiocaaDoor.Bv Go.Proofs.YtcelojkecfiocaaDoor.Mem
open Go.Proofs.YtcelojkecfiocaaDoorW.PrintWords

/-- The string of these bytes. -/
def str (l : List UInt8) : ByteArray := ⟨l.toArray⟩
theorem str_inj {a b : List UInt8} : (str a = str b) ↔ (a = b) := by
  constructor
  · intro h
    have := congrArg (fun x => x.data.toList) h
    simpa [str] using this
  · exact fun h => congrArg str h

theorem string_of {w : World} {A : Option Addr} {n c : Nat} {l : List UInt8} (h : ReadsOf eb 0 w A n l) : (convert 22 9 (.slice A n c)).run Tryd.prog w = .ok (.string (str l)) w := by
  have hn := h.1
  cases A with
  | none =>
    have h0 : n = 0 := by
      rcases Nat.eq_zero_or_pos n with h1 | h1
      · exact h1
      · obtain ⟨ad, e, _⟩ := h.2.2 h1
        cases e
    subst h0
    have : l = [] := by
      cases l with
      | nil => rfl
      | cons a b => simp at hn
    subst this
    exact run_convert_bytes_nil (P := Tryd.prog) w 22 5 (by kernel_rfl) (by kernel_rfl) 0 c 9 (by kernel_rfl)
  | some ad =>
    subst hn
    refine run_convert_bytes_back (P := Tryd.prog) w 22 9 5 ad c l (by kernel_rfl) (by kernel_rfl) (by kernel_rfl) ?_
    intro j hj
    rw [reads_cell h j hj]
    simp [eb, tb, Sha.b8, hj]

/-- A literal of bytes out of a constant: its row gets a mark. -/
@[go_sem] theorem conv_mark (w : World) (C : Array Value) (n c : Nat) :
    (convert 22 22 (.slice (some ⟨w.heap.size, 0, none⟩) n c)).run Tryd.prog (w.alloc (.cells C 5)) = .ok (.slice (some ⟨w.heap.size, 0, none⟩) n c) (w.alloc (.cells C 5 (C.size, C.size + 1))) :=
  Lib.run_convert_bytes_const (P := Tryd.prog) w 22 5 C n c (by kernel_rfl) (by kernel_rfl)

theorem reads_mark (w : World) (l : List UInt8) (k : Nat × Nat) (hl : l.length ≤ 9223372036854775807) : ReadsOf eb 0 (w.alloc (.cells (l.map eb).toArray 5 k)) (some ⟨w.heap.size, 0, none⟩) l.length l := by
  have h := HSum.reads_new w l hl
  refine ⟨h.1, h.2.1, fun hn => ?_⟩
  obtain ⟨ad, e, hc⟩ := h.2.2 hn
  injection e with e
  subst e
  refine ⟨_, rfl, fun j hj => ?_⟩
  have := hc j hj
  rw [← this]
  have e0 : (⟨w.heap.size, 0, none⟩ : Addr).add j = ⟨w.heap.size, j, none⟩ := by unfold Addr.add; split <;> simp_all
  rw [e0, World.cell?_alloc_mark, World.cell?_alloc_mark]

theorem reads_lt {w : World} {A : Option Addr} {n : Nat} {l : List UInt8} (h : ReadsOf eb 0 w A n l) (hn : 0 < n) : ∀ a, A = some a → a.block < w.heap.size := by
  intro a ha
  subst ha
  have := reads_cell h 0 hn
  simp only [Addr.add, if_true] at this
  exact World.block_lt_of_cell? w _ this

/-- What is read stays as it is where a hash takes bytes. -/
theorem reads_hash {w w' : World} {p : Nat} {m : List UInt8} {A : Option Addr} {n : Nat} {l : List UInt8} (h : ReadsOf eb 0 w A n l) (hh : Obj.HashAt w p m) (hb : Obj.But p w w') : ReadsOf eb 0 w' A n l := by
  obtain ⟨A0, c0, ho, _⟩ := hh.ex
  exact Write.reads_but ho hb h

/-- Parts of a row of bytes: from a to a + N; the first N; from a on. -/
theorem part_mid (A : Option Addr) (c : Nat) (l : List UInt8) (a N : Nat) (x y : Int) (hx : x = a) (hy : y = a + N) (h : a + N ≤ l.length) (hc : l.length ≤ c) :
    ∃ A' : Option Addr, (∀ W : World, (Instr.slice 22 (.slice A l.length c) (some (.int .i64 x)) (some (.int .i64 y)) none).run Tryd.prog W = .ok (.slice A' N (c - a)) W) ∧
      (∀ w : World, ReadsOf eb 0 w A l.length l → ReadsOf eb 0 w A' N ((l.drop a).take N)) := by
  obtain ⟨i0, hi, _, hi1, _⟩ := info_parts RefFilled.info5
  obtain ⟨A', h1, h2, _⟩ := print_mid_of (P := Tryd.prog) eb (0 : UInt8) 22 5 .i64 .i64 Tryd.underlying22 hi hi1 A c l x y (by omega) (by omega) (by omega) hc
  have e1 : x.toNat = a := by omega
  have e2 : y.toNat = a + N := by omega
  have e3 : (l.take (a + N)).drop a = (l.drop a).take N := by rw [List.drop_take]; congr 1; omega
  rw [e1, e2, e3] at h1 h2
  have e4 : ((l.drop a).take N).length = N := by rw [List.length_take, List.length_drop]; omega
  rw [e4] at h1 h2
  exact ⟨A', h1, h2⟩
theorem part_take (A : Option Addr) (c : Nat) (l : List UInt8) (N : Nat) (y : Int) (hy : y = N) (h : N ≤ l.length) (hc : l.length ≤ c) :
    (∀ W : World, (Instr.slice 22 (.slice A l.length c) none (some (.int .i64 y)) none).run Tryd.prog W = .ok (.slice A N c) W) ∧
      (∀ w : World, ReadsOf eb 0 w A l.length l → ReadsOf eb 0 w A N (l.take N)) := by
  obtain ⟨i0, hi, _, hi1, _⟩ := info_parts RefFilled.info5
  obtain ⟨h1, h2, _⟩ := print_take_of (P := Tryd.prog) eb (0 : UInt8) 22 5 .i64 Tryd.underlying22 hi hi1 A c l y (by omega) (by omega) hc
  have e2 : y.toNat = N := by omega
  have e4 : (l.take N).length = N := by rw [List.length_take]; omega
  rw [e2, e4] at h1 h2
  exact ⟨h1, h2⟩
theorem part_drop (A : Option Addr) (c : Nat) (l : List UInt8) (a : Nat) (x : Int) (hx : x = a) (h : a ≤ l.length) (hc : l.length ≤ c) :
    ∃ A' : Option Addr, (∀ W : World, (Instr.slice 22 (.slice A l.length c) (some (.int .i64 x)) none none).run Tryd.prog W = .ok (.slice A' (l.length - a) (c - a)) W) ∧
      (∀ w : World, ReadsOf eb 0 w A l.length l → ReadsOf eb 0 w A' (l.length - a) (l.drop a)) := by
  obtain ⟨i0, hi, _, hi1, _⟩ := info_parts RefFilled.info5
  obtain ⟨A', h1, h2, _⟩ := print_drop_of (P := Tryd.prog) eb (0 : UInt8) 22 5 .i64 Tryd.underlying22 hi hi1 A c l x (by omega) (by omega) hc
  have e2 : x.toNat = a := by omega
  rw [e2, List.length_drop] at h1 h2
  exact ⟨A', h1, h2⟩
end Go.Proofs.YtcelojkecfiocaaDoor.Str
