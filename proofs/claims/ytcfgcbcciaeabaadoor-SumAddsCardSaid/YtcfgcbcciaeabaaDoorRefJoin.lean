/- The reference's times and Join. Conditions: none. -/
import Derived.Test.YtcfgcbcciaeabaaDoorJoin
namespace Go.Proofs.YtcfgcbcciaeabaaDoor.RefJoin
open Go.RowKit Go.Proofs.YtcfgcbcciaeabaaDoor.Bv Go.Proofs.YtcfgcbcciaeabaaDoor.Mem
open Go.Proofs.YtcfgcbcciaeabaaDoorW.PrintWords
open Go.Proofs.YtcfgcbcciaeabaaDoor.Crc
open Go.Proofs.YtcfgcbcciaeabaaDoor.More (mayB wrap64_tn)
open Go.Proofs.YtcfgcbcciaeabaaDoor.RefMore (rb rb_one rb_zero turns_any)
open Go.Proofs.YtcfgcbcciaeabaaDoor.Byteful (pow_tn)
open Go.Proofs.YtcfgcbcciaeabaaDoor.Join (joinP)

theorem info41 : (Tryd.prog.info? 41).map (fun i => (i.zero, i.size, i.bytes)) = some (some (.int .u32 0), 1, 4) := by kernel_rfl
abbrev Reads (w : World) (A : Option Addr) (n : Nat) (m : List W) : Prop := ReadsOf eu 0#32 w A n m
theorem reads_at {w : World} {A : Option Addr} {n : Nat} {m : List W} (h : Reads w A n m) (j : Nat) (hj : j < n) : ∃ ad, A = some ad ∧ w.cell? (ad.add j) = some (eu (m.getD j 0#32)) := by
  obtain ⟨ad, e, hc⟩ := h.2.2 (by omega)
  exact ⟨ad, e, hc j hj⟩

set_option maxRecDepth 100000 in
set_option maxHeartbeats 1600000 in
theorem times_any (A : Option Addr) (c : Nat) (m : List W) (n : W) (w : World) (hr : Reads w A 32 m) : Calls Tryd.prog 30 #[.slice A 32 c, .int .u32 (tn n)] w fun e w' => e = .returned (.int .u32 (tn (ofu m n 32))) ∧ w = w' := by
  go_enter Tryd.func30, Tryd.ntmps30
  go_wp2_with fail
  go_loopg [1, 5, 6] 32 (fun k s1 s5 s6 wr => ∃ i : Nat, i + k = 32 ∧ s6 = .int .i64 (i : Int) ∧ ∃ x o : W, Hid (x = n >>> i) ∧ Hid (o = ofu m n i) ∧ s1 = .int .u32 (tn x) ∧ s5 = .int .u32 (tn o) ∧ w = wr)
  case atStart => exact ⟨0, by omega, rfl, n, 0#32, by simp [Hid], rfl, rfl, rfl, rfl⟩
  case round =>
    obtain ⟨i, hik, rfl, x, o, hx, ho, rfl, rfl, rfl⟩ := hrel
    by_cases hi : i < 32
    · obtain ⟨ad, rfl, hci⟩ := reads_at hr i hi
      have hbit : x.getLsbD 0 = n.getLsbD i := by rw [hx.out, BitVec.getLsbD_ushiftRight, Nat.add_zero]
      obtain ⟨y, hy⟩ : ∃ y, x >>> 1 = y := ⟨_, rfl⟩
      have hyn : Hid (y = n >>> (i + 1)) := by
        show y = _
        rw [← hy, hx.out, ← BitVec.shiftRight_add]
      obtain ⟨q, hq⟩ : ∃ q, q = m.getD i 0#32 := ⟨_, rfl⟩
      rw [← hq] at hci
      cases hb : x.getLsbD 0 with
      | true =>
        have h1 := rb_one hb
        obtain ⟨z, hzz⟩ : ∃ z, o ^^^ q = z := ⟨_, rfl⟩
        have hz' : Hid (z = ofu m n (i + 1)) := by
          show z = if n.getLsbD i then _ else _
          rw [← hbit, hb, if_pos rfl, ← hzz, hq, ho.out]
        clear hb hbit hq
        go_wp2_with fail
        go_roundg (gk - 1)
        case measure => omega
        case rel => exact ⟨i + 1, by omega, by simp, y, z, hyn, hz', rfl, rfl, rfl⟩
      | false =>
        have h1 := rb_zero hb
        have hz' : Hid (o = ofu m n (i + 1)) := by
          show o = if n.getLsbD i then _ else _
          rw [← hbit, hb, ho.out]
          rfl
        clear hb hbit hq hci
        go_wp2_with fail
        go_roundg (gk - 1)
        case measure => omega
        case rel => exact ⟨i + 1, by omega, by simp, y, o, hyn, hz', rfl, rfl, rfl⟩
    · obtain rfl : i = 32 := by omega
      go_wp2_with fail
      go_ret
      rw [← ho.out]
      exact ⟨rfl, rfl⟩

theorem times_mat {f : W → W} (hf : Lin f) (A : Option Addr) (c : Nat) (n : W) (w : World) (hr : Reads w A 32 (mat f)) : Calls Tryd.prog 30 #[.slice A 32 c, .int .u32 (tn n)] w fun e w' => e = .returned (.int .u32 (tn (f n))) ∧ w = w' := by
  have := times_any A c (mat f) n w hr
  rwa [ofu_mat hf] at this

theorem mat_take (f : W → W) (i : Nat) (h : i < 32) : (mat f).take (i + 1) = (mat f).take i ++ [f (1#32 <<< i)] := by
  rw [List.take_succ_eq_append_getElem (by rw [mat_length]; exact h)]
  simp [mat]
theorem mat_take_length (f : W → W) (i : Nat) (h : i ≤ 32) : ((mat f).take i).length = i := by rw [List.length_take, mat_length]; omega

set_option maxRecDepth 100000 in
set_option maxHeartbeats 3200000 in
theorem join_any (x y n : Int) (hn : n ≤ 9223372036854775807) (w : World) : Calls Tryd.prog 18 #[.int .i64 x, .int .i64 y, .int .i64 n] w fun e w' => e = .returned (.tuple #[.int .i64 (joinP x y n).1, .int .i64 (joinP x y n).2]) ∧ Below w.heap.size w w' := by
  have fails : ¬ (mayB x = true ∧ mayB y = true ∧ 0 ≤ n) → joinP x y n = (0, 1) := fun h => by rw [joinP, if_neg h]
  have fails' := Lib.hid fails
  clear fails
  cases hx : mayB x with
  | false =>
    have hp := Lib.hid (fails'.out (by rw [hx]; simp))
    go_enter Tryd.func18, Tryd.ntmps18
    go_wp2_with (go_at_call 25; refine (RefMore.may_any _ _).mono ?_; rintro e w' ⟨rfl, rfl⟩; first | rw [hx] | skip)
    go_ret2
    rw [hp.out]
    exact ⟨rfl, Below.refl _ _⟩
  | true =>
    cases hy : mayB y with
    | false =>
      have hp := Lib.hid (fails'.out (by rw [hy]; simp))
      go_enter Tryd.func18, Tryd.ntmps18
      go_wp2_with (go_at_call 25; refine (RefMore.may_any _ _).mono ?_; rintro e w' ⟨rfl, rfl⟩; first | rw [hx] | rw [hy])
      go_ret2
      rw [hp.out]
      exact ⟨rfl, Below.refl _ _⟩
    | true =>
      by_cases h0 : n < 0
      · have hp := Lib.hid (fails'.out (by omega))
        go_enter Tryd.func18, Tryd.ntmps18
        go_wp2_with (go_at_call 25; refine (RefMore.may_any _ _).mono ?_; rintro e w' ⟨rfl, rfl⟩; first | rw [hx] | rw [hy])
        go_ret2
        rw [hp.out]
        exact ⟨rfl, Below.refl _ _⟩
      · have hp := Lib.hid (show joinP x y n = (tn (join (BitVec.ofInt 32 x) (BitVec.ofInt 32 y) n.toNat), 0) by rw [joinP, if_pos ⟨hx, hy, by omega⟩])
        obtain ⟨N, hN⟩ : ∃ N : Nat, n = (N : Int) := ⟨n.toNat, by omega⟩
        subst hN
        obtain ⟨X, hX⟩ : ∃ X, X = BitVec.ofInt 32 x := ⟨_, rfl⟩
        obtain ⟨Y, hY⟩ : ∃ Y, Y = BitVec.ofInt 32 y := ⟨_, rfl⟩
        have hwx : IntKind.u32.wrap x = tn X := by rw [wrap_tn, hX]
        have hwy : IntKind.u32.wrap y = tn Y := by rw [wrap_tn, hY]
        have hX' := Lib.hid hX
        have hY' := Lib.hid hY
        clear hX hY fails'
        go_enter Tryd.func18, Tryd.ntmps18
        go_wp2_with (go_at_call 25; refine (RefMore.may_any _ _).mono ?_; rintro e w' ⟨rfl, rfl⟩; first | rw [hx] | rw [hy])
        clear hx hy
        go_loopg [10, 11, 12] 32 (fun k s10 s11 s12 wr => ∃ i : Nat, i + k = 32 ∧ s11 = .int .i64 (i : Int) ∧ ∃ L : List W, Hid (L = (mat eight).take i) ∧ L.length = i ∧ wr.ownsRow w.heap.size 41 1 s10 L.length (encs eu L) ∧ Below w.heap.size w wr)
        case atStart => exact ⟨0, by omega, rfl, [], rfl, rfl, own_nil _ _ _ _, Below.refl _ _⟩
        case round =>
          obtain ⟨i, hik, rfl, L, hL, hLl, hO, hB⟩ := hrel
          by_cases hi : i < 32
          · obtain ⟨q, hq⟩ : ∃ q, 1#32 <<< i = q := ⟨_, rfl⟩
            have hpow := pow_tn i
            rw [hq] at hpow
            obtain ⟨z, hz⟩ : ∃ z, z = turns q 8 := ⟨_, rfl⟩
            have ht := turns_any q 8 (by omega) wr
            rw [← hz] at ht
            have hnext : Hid (L ++ [z] = (mat eight).take (i + 1)) := by
              show _ = _
              rw [mat_take eight i hi, hL.out, hz, ← hq]
              rfl
            have ht' := Lib.hid ht
            have hO' := Lib.hid hO
            have hB' := Lib.hid hB
            have hLb : L.length ≤ 31 := by omega
            have hLl' := Lib.hid hLl
            clear hq ht hz hO hB hLl
            go_wp2_with (first | (go_at_call 26; refine ht'.out.mono ?_; rintro e w' ⟨rfl, rfl⟩) | (at_builtin; (with_reducible refine append_one (w0 := w) (o := ⟨some 41, _, _, _, _, _⟩) eu w.heap.size ?ap00 (.tmp 38) (.tmp 40) 49 41 (.int .u32 0) 4 ?ap01 Tryd.underlying49 info41 ?ap02 ?ap03 _ L (z) _ ?ap010 ?ap04 ?ap05 ?ap06 hO'.out hB'.out ?ap07 ?ap08 ?ap09); (case ap00 => rfl); (case ap01 => rfl); (case ap02 => rfl); (case ap03 => omega); (case ap04 => rfl); (case ap05 => rfl); (case ap06 => rfl); (case ap07 => exact (hB'.out).size); (case ap08 => omega); (case ap010 => rfl); intro v2 w2 hO2 hB2 _ _))
            go_roundg (gk - 1)
            case measure => omega
            case rel => exact ⟨i + 1, by omega, by simp, L ++ [z], hnext, by simp [hLl'.out], hO2, hB2⟩
          · obtain rfl : i = 32 := by omega
            have hLm : L = mat eight := by rw [hL.out, List.take_of_length_le (by rw [mat_length]; omega)]
            subst hLm
            obtain ⟨A0, c0, rfl, _, hr0⟩ := own_reads_of_le (d := 0#32) hO
            rw [hLl] at hr0 ⊢
            have hr0' := Lib.hid hr0
            have hB' := Lib.hid hB
            clear hr0 hB hO hL hLl
            go_wp2_with fail
            clear hwx
            go_loopg [2, 10, 13, 14, 15, 16] N (fun k s2 s10 s13 s14 s15 s16 wq => s2 = .int .i64 (k : Int) ∧ k ≤ N ∧ ∃ (R : W) (A : Option Addr) (c : Nat) (f : W → W), s13 = .int .u32 (tn R) ∧ s10 = .slice A 32 c ∧ Lin f ∧ Hid (itf f k R = eights X N) ∧ Hid (Reads wq A 32 (mat f)) ∧ Hid (Below w.heap.size w wq))
            case atStart => exact ⟨rfl, Nat.le_refl _, X, A0, c0, eight, rfl, rfl, eight_lin, itf_eights N X, hr0', hB'⟩
            case round =>
              clear hr0' hB'
              obtain ⟨rfl, hkN, R, A, c, f, rfl, rfl, hf, hit, hr, hB⟩ := hrel
              by_cases hk : 0 < gk
              · have hf' := Lib.hid hf
                have hwS := hB.out.size
                obtain ⟨k0, hk0⟩ : ∃ k0, k0 = gk := ⟨_, rfl⟩
                by_cases hodd : gk % 2 = 1
                · have ho : (gk : Int) % 2 = 1 := by omega
                  have hnext : Hid (itf (fun v => f (f v)) (gk / 2) (f R) = eights X N) := by
                    show _ = _
                    rw [← hit.out, itf_odd f gk hodd]
                  have ht := Lib.hid (times_mat hf A c R wr hr.out)
                  clear hf hodd
                  go_wp2_with (go_at_call 30; refine ht.out.mono ?_; rintro e w' ⟨rfl, rfl⟩)
                  clear ht ho
                  obtain ⟨W1, hW1⟩ : ∃ W1, W1 = wr := ⟨_, rfl⟩
                  rw [← hW1] at hr hB hwS ⊢
                  clear hW1
                  go_loopg [14, 15, 16] 32 (fun k s14 s15 s16 wi => ∃ i : Nat, i + k = 32 ∧ s15 = .int .i64 (i : Int) ∧ ∃ L : List W, Hid (L = (mat fun v => f (f v)).take i) ∧ L.length = i ∧ wi.ownsRow W1.heap.size 41 1 s14 L.length (encs eu L) ∧ Below W1.heap.size W1 wi)
                  case atStart => exact ⟨0, by omega, rfl, [], rfl, rfl, own_nil _ _ _ _, Below.refl _ _⟩
                  case round =>
                    obtain ⟨i, hik, rfl, L, hL, hLl, hO, hB2⟩ := hrel
                    by_cases hi : i < 32
                    · have hri := hr.out.below hB2
                      obtain ⟨ad, rfl, hci⟩ := reads_at hri i hi
                      obtain ⟨q, hq⟩ : ∃ q, q = (mat f).getD i 0#32 := ⟨_, rfl⟩
                      rw [← hq] at hci
                      have ht := times_mat hf'.out (some ad) c q _ hri
                      obtain ⟨z, hz⟩ : ∃ z, z = f q := ⟨_, rfl⟩
                      rw [← hz] at ht
                      have hnext2 : Hid (L ++ [z] = (mat fun v => f (f v)).take (i + 1)) := by
                        show _ = _
                        rw [mat_take (fun v => f (f v)) i hi, hL.out, hz, hq, mat_get f i hi]
                      have ht' := Lib.hid ht
                      have hO' := Lib.hid hO
                      have hB2' := Lib.hid hB2
                      have hLb : L.length ≤ 31 := by omega
                      have hLl' := Lib.hid hLl
                      clear hq ht hz hO hB2 hLl hri
                      go_wp2_with (first | (go_at_call 30; refine ht'.out.mono ?_; rintro e w' ⟨rfl, rfl⟩) | (at_builtin; (with_reducible refine append_one (w0 := W1) (o := ⟨some 65, _, _, _, _, _⟩) eu W1.heap.size ?ap10 (.tmp 62) (.tmp 64) 49 41 (.int .u32 0) 4 ?ap11 Tryd.underlying49 info41 ?ap12 ?ap13 _ L (z) _ ?ap110 ?ap14 ?ap15 ?ap16 hO'.out hB2'.out ?ap17 ?ap18 ?ap19); (case ap10 => rfl); (case ap11 => rfl); (case ap12 => rfl); (case ap13 => omega); (case ap14 => rfl); (case ap15 => rfl); (case ap16 => rfl); (case ap17 => exact (hB2'.out).size); (case ap18 => omega); (case ap110 => rfl); intro v3 w3 hO3 hB3 _ _))
                      go_roundg (gk - 1)
                      case measure => omega
                      case rel => exact ⟨i + 1, by omega, by simp, L ++ [z], hnext2, by simp [hLl'.out], hO3, hB3⟩
                    · obtain rfl : i = 32 := by omega
                      have hLm : L = mat fun v => f (f v) := by rw [hL.out, List.take_of_length_le (by rw [mat_length]; omega)]
                      subst hLm
                      obtain ⟨A5, c5, rfl, _, hr5⟩ := own_reads_of_le (d := 0#32) hO
                      rw [hLl] at hr5 ⊢
                      have hr5' := Lib.hid hr5
                      have hB5 := Lib.hid (hB.out.trans (hB2.mono hB.out.size))
                      clear hr5 hB2 hO hL hLl
                      go_wp2_with fail
                      go_roundg (k0 / 2)
                      case measure => omega
                      case rel =>
                        rw [hk0]
                        exact ⟨by go_num, by omega, (f R), A5, c5, fun v => f (f v), rfl, rfl, hf'.out.two, hnext, hr5', hB5⟩
                · have he : gk % 2 = 0 := by omega
                  have ho : (gk : Int) % 2 = 0 := by omega
                  have hnext : Hid (itf (fun v => f (f v)) (gk / 2) R = eights X N) := by
                    show _ = _
                    rw [← hit.out, itf_even f gk he]
                  clear hf hodd he
                  go_wp2_with fail
                  clear ho
                  obtain ⟨W1, hW1⟩ : ∃ W1, W1 = wr := ⟨_, rfl⟩
                  rw [← hW1] at hr hB hwS ⊢
                  clear hW1
                  go_loopg [14, 15, 16] 32 (fun k s14 s15 s16 wi => ∃ i : Nat, i + k = 32 ∧ s15 = .int .i64 (i : Int) ∧ ∃ L : List W, Hid (L = (mat fun v => f (f v)).take i) ∧ L.length = i ∧ wi.ownsRow W1.heap.size 41 1 s14 L.length (encs eu L) ∧ Below W1.heap.size W1 wi)
                  case atStart => exact ⟨0, by omega, rfl, [], rfl, rfl, own_nil _ _ _ _, Below.refl _ _⟩
                  case round =>
                    obtain ⟨i, hik, rfl, L, hL, hLl, hO, hB2⟩ := hrel
                    by_cases hi : i < 32
                    · have hri := hr.out.below hB2
                      obtain ⟨ad, rfl, hci⟩ := reads_at hri i hi
                      obtain ⟨q, hq⟩ : ∃ q, q = (mat f).getD i 0#32 := ⟨_, rfl⟩
                      rw [← hq] at hci
                      have ht := times_mat hf'.out (some ad) c q _ hri
                      obtain ⟨z, hz⟩ : ∃ z, z = f q := ⟨_, rfl⟩
                      rw [← hz] at ht
                      have hnext2 : Hid (L ++ [z] = (mat fun v => f (f v)).take (i + 1)) := by
                        show _ = _
                        rw [mat_take (fun v => f (f v)) i hi, hL.out, hz, hq, mat_get f i hi]
                      have ht' := Lib.hid ht
                      have hO' := Lib.hid hO
                      have hB2' := Lib.hid hB2
                      have hLb : L.length ≤ 31 := by omega
                      have hLl' := Lib.hid hLl
                      clear hq ht hz hO hB2 hLl hri
                      go_wp2_with (first | (go_at_call 30; refine ht'.out.mono ?_; rintro e w' ⟨rfl, rfl⟩) | (at_builtin; (with_reducible refine append_one (w0 := W1) (o := ⟨some 65, _, _, _, _, _⟩) eu W1.heap.size ?ap20 (.tmp 62) (.tmp 64) 49 41 (.int .u32 0) 4 ?ap21 Tryd.underlying49 info41 ?ap22 ?ap23 _ L (z) _ ?ap210 ?ap24 ?ap25 ?ap26 hO'.out hB2'.out ?ap27 ?ap28 ?ap29); (case ap20 => rfl); (case ap21 => rfl); (case ap22 => rfl); (case ap23 => omega); (case ap24 => rfl); (case ap25 => rfl); (case ap26 => rfl); (case ap27 => exact (hB2'.out).size); (case ap28 => omega); (case ap210 => rfl); intro v3 w3 hO3 hB3 _ _))
                      go_roundg (gk - 1)
                      case measure => omega
                      case rel => exact ⟨i + 1, by omega, by simp, L ++ [z], hnext2, by simp [hLl'.out], hO3, hB3⟩
                    · obtain rfl : i = 32 := by omega
                      have hLm : L = mat fun v => f (f v) := by rw [hL.out, List.take_of_length_le (by rw [mat_length]; omega)]
                      subst hLm
                      obtain ⟨A5, c5, rfl, _, hr5⟩ := own_reads_of_le (d := 0#32) hO
                      rw [hLl] at hr5 ⊢
                      have hr5' := Lib.hid hr5
                      have hB5 := Lib.hid (hB.out.trans (hB2.mono hB.out.size))
                      clear hr5 hB2 hO hL hLl
                      go_wp2_with fail
                      go_roundg (k0 / 2)
                      case measure => omega
                      case rel =>
                        rw [hk0]
                        exact ⟨by go_num, by omega, R, A5, c5, fun v => f (f v), rfl, rfl, hf'.out.two, hnext, hr5', hB5⟩
              · obtain rfl : gk = 0 := by omega
                have hfin : tn (R ^^^ Y) = (joinP x y (N : Int)).1 := by
                  rw [hp.out, ← hX'.out, ← hY'.out, Int.toNat_natCast]
                  show _ = tn (eights X N ^^^ Y)
                  rw [← hit.out]
                  rfl
                have hfin2 : (joinP x y (N : Int)).2 = 0 := by rw [hp.out]
                obtain ⟨z, hz⟩ : ∃ z, R ^^^ Y = z := ⟨_, rfl⟩
                rw [hz] at hfin
                have hfin' := Lib.hid hfin
                have hfin2' := Lib.hid hfin2
                clear hfin hfin2 hf hit hp hr
                go_wp2_with fail
                go_ret2
                rw [← hfin'.out, hfin2'.out]
                refine ⟨?_, hB.out⟩
                show Ending.returned (.tuple #[.int .i64 (wrap64 (tn z)), .int .i64 0]) = _
                rw [wrap64_tn]
end Go.Proofs.YtcfgcbcciaeabaaDoor.RefJoin
