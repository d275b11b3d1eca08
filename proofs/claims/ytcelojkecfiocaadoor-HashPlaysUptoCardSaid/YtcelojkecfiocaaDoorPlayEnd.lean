/- The end of HashPlays: what stands when the digests told have been written over. A word on drawn regions: the condition may be sharpened on the way. -/
import Derived.Test.YtcelojkecfiocaaDoorPlaySt
import Derived.Deep.RegionHeld3
namespace Go.Proofs.YtcelojkecfiocaaDoor.Play
open Go.RowKit Go.Proofs.YtcelojkecfiocaaDoor.Bv Go.Proofs.YtcelojkecfiocaaDoor.Mem
open Go.Proofs.YtcelojkecfiocaaDoorW.PrintWords
open Go.Proofs.YtcelojkecfiocaaDoor.Obj Go.Proofs.YtcelojkecfiocaaDoor.Far

/-- What is walked under a sharper condition is walked under the blunter one. -/
theorem wpAnyH_sharp {P : Program} {md : Region.Mode} {ops : Array Oper} {Q : Exit → Act → World → Prop} {S S2 : World → Prop} (h : ∀ w, S2 w → S w) :
    ∀ (fuel : Nat) (listed : Array Bool) (a : Act) (w : World), wpAnyH P md ops Q S2 fuel listed a w → wpAnyH P md ops Q S fuel listed a w
  | 0, _, _, _, hw => hw
  | fuel + 1, _, _, _, hw => ⟨hw.1, fun i hi => wpOp_mono (fun a' w' h' => ⟨h w' h'.1, wpAnyH_sharp h fuel _ a' w' h'.2⟩) (hw.2 i hi)⟩

set_option maxRecDepth 100000 in
theorem owned_nil (w : World) : Calls Tryd.prog 18 #[.slice none 0 0] w fun e w' => e = .returned (.bool true) ∧ w' = w := by
  go_enter Tryd.func18, Tryd.ntmps18
  go_wp2_with fail
  go_loopg [3, 4, 5, 6, 7, 8] 0 (fun k s3 s4 s5 s6 s7 s8 wr => s3 = .slice none 0 0 ∧ s4 = .int .i64 0 ∧ wr = w)
  case atStart => exact ⟨rfl, rfl, rfl⟩
  case round =>
    obtain ⟨rfl, rfl, rfl⟩ := hrel
    go_wp2_with fail
    go_loopg [9, 10] 0 (fun k s9 s10 wx => s9 = .int .i64 0 ∧ wx = wr)
    case atStart => exact ⟨rfl, rfl⟩
    case round =>
      obtain ⟨rfl, rfl⟩ := hrel
      go_wp2_with fail
      go_ret
      exact ⟨rfl, rfl⟩

/-- What stands at the end. -/
structure Fin (w W : World) (bh ba : Nat) (P : Nat → Nat) (L : Nat → List UInt8) (V : Nat → Value) : Prop where
  below : Below w.heap.size w W
  hs : Arr W bh 37 (two fun k => ptr (P k))
  all : Arr W ba 38 (two V)
  hash : ∀ k, k < 2 → HashAt W (P k) (L k)
  bytes : ∀ k, k < 2 → ∃ A c, V k = .slice A (L k).length c ∧ ReadsOf eb 0 W A (L k).length (L k)
section
variable {F : Nat → Prop} {w W W' : World} {bh ba : Nat} {P : Nat → Nat} {L : Nat → List UInt8} {V : Nat → Value} {lv : Value} {T : List Value}
theorem Fin.on (h : Fin w W bh ba P L V) (hb : Below W.heap.size W W') : Fin w W' bh ba P L V :=
  ⟨h.below.trans (hb.mono h.below.size), h.hs.below hb, h.all.below hb, fun k hk => (h.hash k hk).below hb, fun k hk => by obtain ⟨A, c, e, h2⟩ := h.bytes k hk; exact ⟨A, c, e, h2.below hb⟩⟩
theorem St.fin {X : Nat → Prop} (h : St F w W bh ba P L L V lv T) (hs : Stay X W W') (hX : ∀ g, X g → w.heap.size ≤ g ∧ ∃ u ∈ T, u.ownBlock = some g) : Fin w W' bh ba P L V := by
  have hty : ∀ {g : Nat} {C : Array Value} {t : TypeId} {fr : Nat × Nat}, W.heap[g]? = some (.cells C t fr) → t ≠ 5 → ¬ X g := fun {g C t fr} hC ht hx => by
    obtain ⟨_, u, hu, e⟩ := hX g hx
    obtain ⟨_, _, C2, fr2, hC2⟩ := h.rcell hu e
    exact ty_ne hC hC2 ht rfl
  have hF : ∀ b, F b → ¬ X b := fun b hb hx => by
    obtain ⟨_, u, hu, e⟩ := hX b hx
    exact (h.off b hb).2.2.2 u hu e
  refine ⟨h.below.trans (hs.below (fun g hg => (hX g hg).1) h.below.size), arr_stay hs h.hs (hty h.hs (by decide)), arr_stay hs h.all (hty h.all (by decide)), fun k hk => ?_, fun k hk => ?_⟩
  · obtain ⟨C, fr, hC⟩ := h.hcell k hk
    exact (HashBy.stay (h.hash k hk) hs (hty hC (by decide)) hF).at
  · obtain ⟨A, c, e, h2, _⟩ := (h.bytes k hk).stay hs hF
    exact ⟨A, c, e, h2⟩
/-- The digests told are looked at, and written over. -/
theorem St.owned (h : St F w W bh ba P L L V lv T) (hT : T.length ≤ 1099511627776) : Calls Tryd.prog 18 #[lv] W fun e W' => e = .returned (.bool true) ∧ Fin w W' bh ba P L V := by
  have hl := h.long
  rcases hl.2 with ⟨rfl, h0⟩ | ⟨g, cap, cur, rfl, hb, hh, _⟩
  · have _h0 := h0
    refine (owned_nil W).mono ?_
    rintro e W' ⟨rfl, rfl⟩
    exact ⟨rfl, h.fin (X := fun _ => False) (Stay.of_below (Below.refl _ _)) (fun _ hx => hx.elim)⟩
  · refine (Owned.Calm.owned_any w.heap.size ⟨g, 0, none⟩ T.length cap T W rfl hT h.below.size (fun j v hv => hl.cells (g := g) rfl j v hv) ⟨(Array.getElem?_eq_some_iff.1 hh).1, cur, (0, 0), hh⟩ (fun j v hv => ?_) h.apart).mono ?_
    · obtain ⟨l, hl, ho⟩ := h.rows v (List.mem_of_getElem? hv)
      exact ⟨l, by omega, ho⟩
    · rintro e W' ⟨rfl, hbw, hcalm⟩
      refine ⟨rfl, h.fin (X := fun k => w.heap.size ≤ k ∧ ∃ u ∈ T, u.ownBlock = some k) ⟨hbw.os, hbw.tape, hbw.output, hbw.size, fun k hk hn => ?_⟩ (fun _ hx => hx)⟩
      by_cases hkb : k < w.heap.size
      · exact hbw.block k hkb
      · refine hcalm k hk fun u hu e => hn ⟨by omega, u, hu, e⟩
end
end Go.Proofs.YtcelojkecfiocaaDoor.Play
