/- SumParts: the sum of bytes comes from the sums of their parts, however they are parted. -/
import Derived.Test.YtcfgcbcciaeabaaDoorAwake
namespace Go.Proofs.YtcfgcbcciaeabaaDoor.SumParts
open Go.RowKit Go.Proofs.YtcfgcbcciaeabaaDoor.Bv Go.Proofs.YtcfgcbcciaeabaaDoor.Mem
open Go.Proofs.YtcfgcbcciaeabaaDoorW.PrintWords
open Go.Proofs.YtcfgcbcciaeabaaDoor.Crc
open Go.Proofs.YtcfgcbcciaeabaaDoor.More (Tab sumP moreP mayB)
open Go.Proofs.YtcfgcbcciaeabaaDoor.Join (joinP)
open Go.Proofs.YtcfgcbcciaeabaaDoor.Obj (info5)
open Go.Proofs.YtcfgcbcciaeabaaDoor.Str
open Go.Proofs.YtcfgcbcciaeabaaDoor.Hold

theorem tn_may (x : W) : 0 ≤ tn x ∧ tn x ≤ 4294967295 := by have := tn_range x; omega
theorem mayB_tn (x : W) : mayB (tn x) = true := decide_eq_true (tn_may x)
theorem moreP_tn (x : W) (l : List UInt8) : moreP (tn x) l = (tn (more x l), 0) := by rw [moreP, if_pos (tn_may x), ofInt_tn]
theorem joinP_tn (x y : W) (n : Nat) : joinP (tn x) (tn y) (n : Int) = (tn (join x y n), 0) := by
  rw [joinP, if_pos ⟨mayB_tn x, mayB_tn y, by omega⟩, ofInt_tn, ofInt_tn, Int.toNat_natCast]

theorem sum_at {l : List UInt8} {x : W} (hx : x = sum l) (A : Option Addr) (n c : Nat) (w : World) (hT : Tab w) (hr : ReadsOf eb 0 w A n l) : Calls Tryd.prog 12 #[.slice A n c] w fun e w' => e = .returned (.int .i64 (tn x)) ∧ w = w' := by
  subst hx
  exact More.sum_any A n c l w hT hr
theorem more_at {l : List UInt8} {x y : W} (hy : y = more x l) (A : Option Addr) (n c : Nat) (w : World) (hT : Tab w) (hr : ReadsOf eb 0 w A n l) : Calls Tryd.prog 13 #[.int .i64 (tn x), .slice A n c] w fun e w' => e = .returned (.tuple #[.int .i64 (tn y), .int .i64 0]) ∧ w = w' := by
  have h := More.more_any (tn x) A n c l w hT hr
  rw [moreP_tn] at h
  subst hy
  exact h
theorem join_at {x y z : W} {n : Nat} (hz : z = join x y n) (hn : n ≤ 9223372036854775807) (w : World) : Calls Tryd.prog 17 #[.int .i64 (tn x), .int .i64 (tn y), .int .i64 (n : Int)] w fun e w' => e = .returned (.tuple #[.int .i64 (tn z), .int .i64 0]) ∧ Below w.heap.size w w' := by
  have h := Join.join_any (tn x) (tn y) n (by omega) w
  rw [joinP_tn] at h
  subst hz
  exact h

set_option maxRecDepth 100000 in
set_option maxHeartbeats 3200000 in
theorem parts_any (A B C : Option Addr) (ca cb cc : Nat) (a b c : List UInt8) (w : World) (hT : Tab w) (ha : ReadsOf eb 0 w A a.length a) (hb : ReadsOf eb 0 w B b.length b) (hc : ReadsOf eb 0 w C c.length c) (hn : a.length + b.length + c.length ≤ 140737488351232) :
    Calls Tryd.prog 6 #[.slice A a.length ca, .slice B b.length cb, .slice C c.length cc] w (Done w) := by
  obtain ⟨x, hx⟩ : ∃ x, x = sum a := ⟨_, rfl⟩
  obtain ⟨y, hy⟩ : ∃ y, y = sum b := ⟨_, rfl⟩
  obtain ⟨z, hz⟩ : ∃ z, z = sum c := ⟨_, rfl⟩
  obtain ⟨p, hp⟩ : ∃ p, p = more x b := ⟨_, rfl⟩
  obtain ⟨q, hq⟩ : ∃ q, q = more p c := ⟨_, rfl⟩
  obtain ⟨r, hr⟩ : ∃ r, r = join y z c.length := ⟨_, rfl⟩
  have hall : q = sum (a ++ b ++ c) := by
    rw [hq, hp, hx]
    unfold sum
    rw [more_append, more_append]
  have hpj : p = join x y b.length := by rw [hp, hy]; exact more_join x b
  have hql : q = join p z c.length := by rw [hq, hz]; exact more_join p c
  have hqr : q = join x r (b.length + c.length) := by rw [hql, hpj, hr, join_assoc]
  have hx' := Lib.hid hx
  have hy' := Lib.hid hy
  have hz' := Lib.hid hz
  have hp' := Lib.hid hp
  have hq' := Lib.hid hq
  have hr' := Lib.hid hr
  have hall' := Lib.hid hall
  have hpj' := Lib.hid hpj
  have hql' := Lib.hid hql
  have hqr' := Lib.hid hqr
  clear hx hy hz hp hq hr hall hpj hql hqr
  go_enter Tryd.func6, Tryd.ntmps6
  go_wp2_with fail
  refine (Awake.awake_any w hT).mono ?_
  rintro e w1 ⟨rfl, hb1⟩
  have ha1 := ha.below hb1
  go_upto_region 4 with (at_builtin; (with_reducible refine print_append_row_of (w0 := w) (o := ⟨some 29, _, _, _, _, _⟩) eb 0 w.heap.size ?pa0 (.tmp 27) (.tmp 28) 22 5 (.int .u8 0) 1 ?pa1 Tryd.underlying22 info5 ?pa2 ?pa3 ?pa4 (.slice none 0 0) [] a A a.length ca ?pa5 ?pa6 (own_nil _ _ _ _) ha1 hb1 ?pa7 ?pa8 ?pa9); (case pa0 => rfl); (case pa1 => rfl); (case pa2 => rfl); (case pa3 => omega); (case pa4 => exact fun _ => rfl); (case pa5 => rfl); (case pa6 => rfl); (case pa7 => exact hb1.size); (case pa8 => (simp; omega)); intro v2 w2 hO2 hB2 _ _; simp only [List.nil_append] at hO2)
  have hb2 := hb.below hB2
  go_upto_region 5 with (at_builtin; (with_reducible refine print_append_row_of (w0 := w) (o := ⟨some 32, _, _, _, _, _⟩) eb 0 w.heap.size ?pb0 (.tmp 30) (.tmp 31) 22 5 (.int .u8 0) 1 ?pb1 Tryd.underlying22 info5 ?pb2 ?pb3 ?pb4 v2 a b B b.length cb ?pb5 ?pb6 hO2 hb2 hB2 ?pb7 ?pb8 ?pb9); (case pb0 => rfl); (case pb1 => rfl); (case pb2 => rfl); (case pb3 => omega); (case pb4 => exact fun _ => rfl); (case pb5 => rfl); (case pb6 => rfl); (case pb7 => exact hB2.size); (case pb8 => (simp; omega)); intro v3 w3 hO3 hB3 _ _)
  clear hO2 hb2 ha1
  have hc3 := hc.below hB3
  go_upto_region 6 with (at_builtin; (with_reducible refine print_append_row_of (w0 := w) (o := ⟨some 35, _, _, _, _, _⟩) eb 0 w.heap.size ?pc0 (.tmp 33) (.tmp 34) 22 5 (.int .u8 0) 1 ?pc1 Tryd.underlying22 info5 ?pc2 ?pc3 ?pc4 v3 (a ++ b) c C c.length cc ?pc5 ?pc6 hO3 hc3 hB3 ?pc7 ?pc8 ?pc9); (case pc0 => rfl); (case pc1 => rfl); (case pc2 => rfl); (case pc3 => omega); (case pc4 => exact fun _ => rfl); (case pc5 => rfl); (case pc6 => rfl); (case pc7 => exact hB3.size); (case pc8 => (simp; omega)); intro v4 w4 hO4 hB4 _ _)
  clear hO3 hc3 hB3 hB2 hb1
  have hT4 := hT.on hB4
  have ha4 := ha.below hB4
  have hb4 := hb.below hB4
  have hc4 := hc.below hB4
  obtain ⟨L, hL⟩ : ∃ L, L = a ++ b ++ c := ⟨_, rfl⟩
  rw [← hL] at hO4
  obtain ⟨A4, c4, rfl, _, hr4⟩ := own_reads_of_le (d := (0 : UInt8)) hO4
  have hall2 : Hid (q = sum L) := by
    show _ = _
    rw [hL]
    exact hall'.out
  have hB4' := Lib.hid hB4
  have s1 := Lib.hid (sum_at hx'.out A a.length ca w4 hT4 ha4)
  have s2 := Lib.hid (sum_at hy'.out B b.length cb w4 hT4 hb4)
  have s3 := Lib.hid (sum_at hz'.out C c.length cc w4 hT4 hc4)
  have s4 := Lib.hid (sum_at hall2.out A4 L.length c4 w4 hT4 hr4)
  have s5 := Lib.hid (more_at hp'.out B b.length cb w4 hT4 hb4)
  have s6 := Lib.hid (more_at hq'.out C c.length cc w4 hT4 hc4)
  clear hO4 hB4 ha4 hb4 hc4 hr4 hL ha hb hc hT hT4
  go_wp2_with fail
  refine s1.out.mono ?_
  rintro e w' ⟨rfl, rfl⟩
  go_wp2_with fail
  refine s2.out.mono ?_
  rintro e w' ⟨rfl, rfl⟩
  go_wp2_with fail
  refine s3.out.mono ?_
  rintro e w' ⟨rfl, rfl⟩
  go_wp2_with fail
  refine s4.out.mono ?_
  rintro e w' ⟨rfl, rfl⟩
  go_wp2_with fail
  refine s5.out.mono ?_
  rintro e w' ⟨rfl, rfl⟩
  go_wp2_with fail
  refine s6.out.mono ?_
  rintro e w' ⟨rfl, rfl⟩
  clear s1 s2 s3 s4 s5 s6
  have j1 := Lib.hid (join_at hpj'.out (by omega) w4)
  go_wp2_with fail
  refine j1.out.mono ?_
  rintro e w5 ⟨rfl, hb5⟩
  have hB5 := Lib.hid (hB4'.out.trans (hb5.mono hB4'.out.size))
  have j2 := Lib.hid (join_at hql'.out (by omega) w5)
  clear j1 hb5 hB4'
  go_wp2_with fail
  refine j2.out.mono ?_
  rintro e w6 ⟨rfl, hb6⟩
  have hB6 := Lib.hid (hB5.out.trans (hb6.mono hB5.out.size))
  have j3 := Lib.hid (join_at hr'.out (by omega) w6)
  clear j2 hb6 hB5
  go_wp2_with fail
  refine j3.out.mono ?_
  rintro e w7 ⟨rfl, hb7⟩
  have hB7 := Lib.hid (hB6.out.trans (hb7.mono hB6.out.size))
  have j4 := join_at hqr'.out (by omega) w7
  rw [Int.natCast_add] at j4
  have j4' := Lib.hid j4
  clear j3 hb7 hB6 j4
  go_wp2_with fail
  refine j4'.out.mono ?_
  rintro e w8 ⟨rfl, hb8⟩
  have hB8 := Lib.hid (hB7.out.trans (hb8.mono hB7.out.size))
  clear j4' hb8 hB7
  go_wp2_with fail
  go_ret
  exact ⟨rfl, hB8.out⟩
end Go.Proofs.YtcfgcbcciaeabaaDoor.SumParts
