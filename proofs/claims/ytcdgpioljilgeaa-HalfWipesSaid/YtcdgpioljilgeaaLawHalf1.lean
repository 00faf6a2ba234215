/- The walk of the law HalfRoom. -/
import Derived.Test.YtcdgpioljilgeaaLawHalf4
import Derived.Test.YtcdgpioljilgeaaMake
import Derived.RegionTactic
set_option linter.unusedVariables false
set_option maxRecDepth 100000
set_option linter.unusedSimpArgs false
namespace Go.Proofs.Ytcdgpioljilgeaa
open Go.RowKit

theorem half_split {g : Geo} {x : Int} (hx : isHalf x) : ∃ U T, U.length = x.toNat * halfN g ∧ ffs (2 * halfN g) = U ++ ([] ++ (ffs (halfN g) ++ T)) ∧ (∀ H : List UInt8, H.length = halfN g → halfL g (U ++ (H ++ T)) (1 - x) = ffs (halfN g)) ∧ isHalf (1 - x) := by
  unfold isHalf at hx
  rcases hx with rfl | rfl
  · refine ⟨[], ffs (halfN g), ?_, ?_, fun H hH => ?_, Or.inr rfl⟩
    · have : (0 : Int).toNat = 0 := rfl
      rw [this, Nat.zero_mul]; rfl
    · rw [List.nil_append, List.nil_append, ffs_append, Nat.two_mul]
    · have := halfL_is (g := g) (x := 1 - 0) (Or.inr rfl) H (ffs (halfN g)) [] (by show H.length = 1 * halfN g; omega) (ffs_length _)
      rw [List.append_nil] at this
      rw [List.nil_append]
      exact this
  · refine ⟨ffs (halfN g), [], ?_, ?_, fun H hH => ?_, Or.inl rfl⟩
    · have : (1 : Int).toNat = 1 := rfl
      rw [this, Nat.one_mul, ffs_length]
    · rw [List.append_nil, List.nil_append, ffs_append, Nat.two_mul]
    · have := halfL_is (g := g) (x := 1 - 1) (Or.inl rfl) [] (ffs (halfN g)) (H ++ []) (by show 0 = 0 * halfN g; omega) (ffs_length _)
      rw [List.nil_append] at this
      exact this

theorem half_size_zero (w : World) : Calls Try.prog 54 #[.agg #[.int .i64 0, .int .i64 0, .int .i64 0, .int .i64 0, .int .i64 0]] w fun e w' => e = .returned (.int .i64 0) ∧ Below w.heap.size w w' := by
  obtain ⟨w0, rfl⟩ : ∃ w0 : World, w0 = w := ⟨_, rfl⟩
  have hs0 := Nat.le_refl w0.heap.size
  have HR := Lib.hid (fun W => nor_right ⟨0, 0, 0, 0, 0⟩ W)
  have HD := Lib.hid (show decide (Geo.ok ⟨0, 0, 0, 0, 0⟩) = false by decide)
  have hbx := Blk.new w0 [.int .i64 0, .int .i64 0, .int .i64 0, .int .i64 0, .int .i64 0] 23
  have hbel := below_alloc w0 (.cells [.int .i64 0, .int .i64 0, .int .i64 0, .int .i64 0, .int .i64 0].toArray 23 (0, 0))
  have c0 := hbx.cell 0 _ rfl
  have c1 := hbx.cell 1 _ rfl
  have c2 := hbx.cell 2 _ rfl
  have c3 := hbx.cell 3 _ rfl
  have c4 := hbx.cell 4 _ rfl
  go_enter Try.func54, Try.ntmps54
  go_wp2_with (go_at_call 28; refine (HR.out _).mono ?_; rintro e w1 ⟨rfl, hb1⟩; rw [HD.out])
  go_ret
  exact ⟨rfl, hbel.trans (hb1.mono hbel.size)⟩

set_option maxHeartbeats 16000000 in
theorem halfRoom_walk {w : World} (g0 g1 g2 g3 g4 : Int) (x0 : Int) (wx : (Lit.int .i64 x0).wf = true) (n0 : Int) (wn : (Lit.int .i64 n0).wf = true) :
    Calls Try.prog 12 #[.agg #[.int .i64 g0, .int .i64 g1, .int .i64 g2, .int .i64 g3, .int .i64 g4], .int .i64 x0, .int .i64 n0] w fun e w' => e = .returned (.bool true) ∧ Below w.heap.size w w' := by
  obtain ⟨w0, rfl⟩ : ∃ w0 : World, w0 = w := ⟨_, rfl⟩
  have hs0 : w0.heap.size ≤ w0.heap.size := Nat.le_refl _
  have hbx := Blk.new w0 [.int .i64 g0, .int .i64 g1, .int .i64 g2, .int .i64 g3, .int .i64 g4] 23
  have hbel := below_alloc w0 (.cells [.int .i64 g0, .int .i64 g1, .int .i64 g2, .int .i64 g3, .int .i64 g4].toArray 23 (0, 0))
  have hlt0 := hbx.lt
  obtain ⟨sa, sz, gc, gd, ge, hG, hok, hsa1, hsa2, hsa3, hsz1, hsz2, -⟩ := playG_is ⟨g0, g1, g2, g3, g4⟩
  have HG := Lib.hid (fun W => play_geometry_as g0 g1 g2 g3 g4 W hG)
  clear hG
  have b0 := hbx.cell 0 _ rfl
  have b1 := hbx.cell 1 _ rfl
  have b2 := hbx.cell 2 _ rfl
  have b3 := hbx.cell 3 _ rfl
  have b4 := hbx.cell 4 _ rfl
  obtain ⟨hX1, hX2⟩ := pmod_is x0 2 (by omega) (by omega)
  generalize pmod x0 2 = xk at *
  have HX1 : Hid (wrap64 ((IntKind.u64.wrap x0).tmod 2) = (xk : Int)) := hX1
  obtain ⟨hN1, hN2⟩ := pmod_is n0 10 (by omega) (by omega)
  generalize pmod n0 10 = nk at *
  have HN1 : Hid (wrap64 ((IntKind.u64.wrap n0).tmod 10) = (nk : Int)) := hN1
  have wn := wf_i64 wn
  have wx := wf_i64 wx
  clear hX1 hN1
  go_enter Try.func12, Try.ntmps12
  go_upto_region 2 with (go_at_call 16; refine (HG.out _).mono ?_; rintro e w1 ⟨rfl, hb1⟩; have hz1 := hbx.below hb1; have e0 := hz1.cell 0 _ rfl; have e1 := hz1.cell 1 _ rfl; have e2 := hz1.cell 2 _ rfl; have e3 := hz1.cell 3 _ rfl; have e4 := hz1.cell 4 _ rfl; have f0 := hz1.frz 0; have f1 := hz1.frz 1; have f2 := hz1.frz 2; have f3 := hz1.frz 3; have f4 := hz1.frz 4; have hs1 := hb1.size)
  have hq := box_turned hz1 (u0 := .int .i64 (sa : Int)) (u1 := .int .i64 (sz : Int)) (u2 := .int .i64 (gc : Int)) (u3 := .int .i64 (gd : Int)) (u4 := .int .i64 (ge : Int))
  have hbq := box_below (hbel.trans (hb1.mono hbel.size)) hs0 (u0 := .int .i64 (sa : Int)) (u1 := .int .i64 (sz : Int)) (u2 := .int .i64 (gc : Int)) (u3 := .int .i64 (gd : Int)) (u4 := .int .i64 (ge : Int))
  clear hz1 e0 e1 e2 e3 e4 f0 f1 f2 f3 f4 b0 b1 b2 b3 b4 hbx hb1 hbel hs1 hlt0
  generalize (((((w1.setCell ⟨w0.heap.size, 0, none⟩ (.int .i64 (sa : Int))).setCell ⟨w0.heap.size, 1, none⟩ (.int .i64 (sz : Int))).setCell ⟨w0.heap.size, 2, none⟩ (.int .i64 (gc : Int))).setCell ⟨w0.heap.size, 3, none⟩ (.int .i64 (gd : Int))).setCell ⟨w0.heap.size, 4, none⟩ (.int .i64 (ge : Int))) = w3 at *
  have hs3 := hq.lt
  have hd3 : w3.drew.heap.size = w3.heap.size := rfl
  have HQ := Lib.hid (fun (W : World) (h : Blk W w0.heap.size 23 [.int .i64 (sa : Int), .int .i64 (sz : Int), .int .i64 (gc : Int), .int .i64 (gd : Int), .int .i64 (ge : Int)]) =>
    (And.intro (h.cell 0 _ rfl) (And.intro (h.cell 1 _ rfl) (And.intro (h.cell 2 _ rfl) (And.intro (h.cell 3 _ rfl) (h.cell 4 _ rfl)))) : W.cell? ⟨w0.heap.size, 0, none⟩ = some (.int .i64 (sa : Int)) ∧ W.cell? ⟨w0.heap.size, 1, none⟩ = some (.int .i64 (sz : Int)) ∧ W.cell? ⟨w0.heap.size, 2, none⟩ = some (.int .i64 (gc : Int)) ∧ W.cell? ⟨w0.heap.size, 3, none⟩ = some (.int .i64 (gd : Int)) ∧ W.cell? ⟨w0.heap.size, 4, none⟩ = some (.int .i64 (ge : Int))))
  go_upto_region 3 with fail
  rw [HX1.out]
  go_region_held3 (fun w' => w'.cell? ⟨w0.heap.size, 0, none⟩ = some (.int .i64 (sa : Int)) ∧ w'.cell? ⟨w0.heap.size, 1, none⟩ = some (.int .i64 (sz : Int)) ∧ w'.cell? ⟨w0.heap.size, 2, none⟩ = some (.int .i64 (gc : Int)) ∧ w'.cell? ⟨w0.heap.size, 3, none⟩ = some (.int .i64 (gd : Int)) ∧ w'.cell? ⟨w0.heap.size, 4, none⟩ = some (.int .i64 (ge : Int)))
    (first | (with_reducible exact HQ.out _ hq) | (with_reducible exact HQ.out _ hq.drew) | (with_reducible exact HQ.out _ hq4) | (with_reducible exact HQ.out _ hq5))
    (first
      | (go_at_call 18; refine (pow_new _).mono ?_; rintro e w4 ⟨v, rfl, pb, rfl, hpg, hpl, hp4, hb4⟩; have hq4 := hq.drew.below hb4)
      | (go_at_call 17; refine (rig_new (B := w0.heap.size + 1) (g := ⟨sa, sz, gc, gd, ge⟩) hp4 (by omega) (by have := hb4.size; omega) hok).mono ?_; rintro e w5 ⟨cb, bb, mb, rfl, hR, hb5⟩; have hq5 := hq4.below hb5))
  have hb50 := (hbq.drew.trans (hb4.mono (by omega))).trans (hb5.mono (by have := hb4.size; omega))
  have z5 := hb50.size
  clear hb4 hb5 hbq hq hq4 hp4 HG hpg hpl hs3 hd3
  go_upto_region 6 with (go_at_call 51; refine (awake08 _).mono ?_; rintro e w6 ⟨rfl, hb6⟩)
  have hR6 := hR.below hb6
  have hq6 := hq5.below hb6
  have hb60 := hb50.trans (hb6.mono z5)
  clear hR hq5 hb6 hb50 z5
  obtain ⟨b0, b1, b2, b3, b4⟩ := HQ.out _ hq6
  have HS : Hid (∀ W, Calls Try.prog 54 #[.agg #[.int .i64 (sa : Int), .int .i64 (sz : Int), .int .i64 (gc : Int), .int .i64 (gd : Int), .int .i64 (ge : Int)]] W fun e w' => e = .returned (.int .i64 (halfN ⟨sa, sz, gc, gd, ge⟩ : Int)) ∧ Below W.heap.size W w') := fun W => half_size ⟨sa, sz, gc, gd, ge⟩ W hok
  have HRS : Hid (∀ W, Calls Try.prog 55 #[.agg #[.int .i64 (sa : Int), .int .i64 (sz : Int), .int .i64 (gc : Int), .int .i64 (gd : Int), .int .i64 (ge : Int)]] W fun e w' => e = .returned (.int .i64 (halfN ⟨sa, sz, gc, gd, ge⟩ : Int)) ∧ Below W.heap.size W w') := fun W => ref_halfsize ⟨sa, sz, gc, gd, ge⟩ W hok
  have hf := half_facts hok
  have hn1 := hf.2.2.2.2.2.2.1
  have hn2 := hf.2.2.2.2.2.2.2.1
  have hn3 := hf.2.2.2.2.2.2.2.2
  clear hf
  rw [hn3] at hR6
  clear hn3
  have hxh : isHalf (xk : Int) := by unfold isHalf; omega
  obtain ⟨U, T, hU, hUT, hO, hxo⟩ := half_split (g := ⟨sa, sz, gc, gd, ge⟩) hxh
  generalize (Geo.mk sa sz gc gd ge) = G at *
  obtain ⟨n, hn⟩ : ∃ n, halfN G = n := ⟨_, rfl⟩
  have HHN := Lib.hid hn
  rw [hn] at hn1 hn2 HS HRS hU hUT hO hR6
  obtain ⟨m, hm⟩ : ∃ m, m = n - 12 + nk := ⟨_, rfl⟩
  obtain ⟨r, H, s', hE, hHl, hcase⟩ : ∃ r H s', appE G PS.new (ffs (2 * n)) (xk : Int) 0 (List.replicate m 0) = (r, U ++ (H ++ T), s') ∧ H.length = n ∧ ((m + 7 ≤ n ∧ r = 0) ∨ (n < m + 7 ∧ r = 10 ∧ H = ffs n)) := by
    by_cases hfit : m + 7 ≤ n
    · refine ⟨0, recL (List.replicate m 0) ++ ffs (n - (m + 7)), PS.new.run (m + 7), ?_, ?_, Or.inl ⟨hfit, rfl⟩⟩
      · rw [hUT]
        have h9 : appE G PS.new (U ++ ([] ++ (ffs n ++ T))) (xk : Int) 0 (List.replicate m 0) = _ := app_run (g := G) (s := PS.new) (x := (xk : Int)) (U := U) (P := []) (T := T) (bs := List.replicate m 0) (R := n) (m := m) hxh (by rw [hn]; exact hU) (by rw [hn]; simp) (by simp) hfit rfl (by decide) (Or.inl (by decide))
        refine h9.trans ?_
        simp
      · rw [List.length_append, recL_length, List.length_replicate, ffs_length]; omega
    · refine ⟨10, ffs n, PS.new, ?_, ffs_length n, Or.inr ⟨by omega, rfl, rfl⟩⟩
      rw [hUT, List.nil_append]
      unfold appE
      rw [if_neg (by rintro (q | q); exact q hxh; omega), hn, List.length_replicate, if_pos (by omega)]
  have hlen : (U ++ (H ++ T)).length = 2 * n := by
    have h1 := congrArg List.length hUT
    simp only [List.length_append, ffs_length, List.length_nil] at h1 ⊢
    omega
  have E := Lib.hid hE
  have HH := Lib.hid (show halfL G (U ++ (H ++ T)) (xk : Int) = H from halfL_is hxh U H T (by rw [hn]; exact hU) (by rw [hn]; exact hHl))
  have HO := Lib.hid (show halfL G (U ++ (H ++ T)) (1 - (xk : Int)) = ffs n from by rw [hO H hHl])
  have HA := Lib.hid (show halfA (xk : Int) = 0 by unfold halfA; rw [if_pos hxh])
  have HA2 := Lib.hid (show halfA (1 - (xk : Int)) = 0 by unfold halfA; rw [if_pos hxo])
  have HHL := Lib.hid hHl
  have E2 := Lib.hid (show appE G s' (U ++ (H ++ T)) (xk : Int) (-1) [] = (1, U ++ (H ++ T), s') by unfold appE; rw [if_pos (Or.inr (by decide))])
  have E3 := Lib.hid (show appE G s' (U ++ (H ++ T)) 2 0 [] = (1, U ++ (H ++ T), s') by unfold appE; rw [if_pos (Or.inl (by decide))])
  have hsd : s'.done ≤ PS.new.done + (m + 7) := by
    have := appE_done hE
    rw [List.length_replicate] at this
    exact this
  have hd0 : PS.new.done = 0 := rfl
  have hmn : (n : Int) - 12 + (nk : Int) = (m : Int) := by omega
  have HMN := Lib.hid hmn
  have hm5 : m ≤ 65000 := by omega
  have hm6 : m ≤ 100000 := by omega
  have HZ := Lib.hid (fun W => run_make_zs m hm6 W)
  clear hE hO hUT hU hHl hxo hm hmn hlen HHN hn
  generalize U ++ (H ++ T) = l1 at *
  clear U T
  go_upto_region 7 with (go_at_call 54; refine (HS.out _).mono ?_; rintro e w7 ⟨rfl, hb7⟩)
  have hR7 := hR6.below hb7
  have hq7 := hq6.below hb7
  have hb70 := hb60.trans (hb7.mono hb60.size)
  clear hR6 hq6 hb7 hb60 b0 b1 b2 b3 b4
  go_upto_region 8 with fail
  rw [HN1.out, HMN.out, IntWalk.wrap64_in (m : Int) (by omega)]
  have hz := HZ.out w7
  have hoz := (own_zs m hm6 w7 w7.heap.size (Nat.le_refl _)).read
  have hal := below_alloc w7 (.cells (zsN m).toArray 5 (0, 0))
  have hRz := hR7.below hal
  have hqz := hq7.below hal
  have hbz := hb70.trans (hal.mono hb70.size)
  have hl7 := hR7.lt
  clear hR7 hq7 hb70 HZ hal HN1 HMN
  generalize w7.alloc (.cells (zsN m).toArray 5 (0, 0)) = w8 at *
  go_upto_region 9 with (go_at_call 52; refine (half_append hRz (xk : Int) 0 (by decide) _ m m (List.replicate m 0) hoz (by simp) hm5 (by omega) E.out).mono ?_; rintro e w9 ⟨rfl, hR9, ho9⟩)
  have hq9 := hqz.only ho9 (fun hm => by have := hRz.own2 _ hm; omega)
  have hb90 := hbz.trans (ho9.below (fun y hy => Nat.le_trans (Nat.le_succ _) (hRz.own2 y hy)) hbz.size)
  clear hz hoz hRz hqz hbz ho9 E
  go_upto_region 10 with (go_at_call 53; refine (half_read hR9 (xk : Int) HH.out HA.out HHL.out).mono ?_; rintro e w10 ⟨A11, c11, rfl, hc11, hy11, -, hb10⟩)
  have hR10 := hR9.below hb10
  have hq10 := hq9.below hb10
  have hb100 := hb90.trans (hb10.mono hb90.size)
  clear hR9 hq9 hb10 hb90
  go_upto_region 11 with (go_at_call 53; refine (half_read hR10 (1 - (xk : Int)) HO.out HA2.out (ffs_length n)).mono ?_; rintro e w11 ⟨A13, c13, rfl, hc13, hy13, -, hb11⟩)
  have hR11 := hR10.below hb11
  have hq11 := hq10.below hb11
  have hy11' := hy11.below hb11
  have hb110 := hb100.trans (hb11.mono hb100.size)
  clear hR10 hq10 hb11 hb100 hy11
  go_upto_block 0 with fail
  go_cut [15] (fun v15 w' => (∃ b, v15 = .bool b ∧ Hid (H = ffs n → b = true)) ∧ w' = w11)
  case first =>
    go_upto_region 13 with fail
    go_loopw [15, 16] (fun v15 v16 wr => ∃ (i : Nat) (b : Bool), i ≤ n ∧ v16 = .int .i64 (i : Int) ∧ v15 = .bool b ∧ Hid (H = ffs n → b = true) ∧ wr = w11) (fun _ v16 _ => n - (intOf v16).toNat)
    case atStart => exact ⟨0, true, Nat.zero_le _, rfl, rfl, fun _ => rfl, rfl⟩
    case round =>
      obtain ⟨i, b, hi, rfl, rfl, HB, rfl⟩ := hrel
      by_cases hlt : i < n
      · have hltI : (i : Int) < (n : Int) := by omega
        have hiH : i < H.length := by rw [HHL.out]; exact hlt
        obtain ⟨g, o, rfl, hcell⟩ := hy11'.at (k := i) hiH
        have hHi : H[i]? = some H[i] := List.getElem?_eq_getElem hiH
        have HHI := Lib.hid hHi
        clear hHi
        generalize H[i] = u at *
        cases b with
        | false =>
          go_wp2_with fail
          go_roundw
          case rel => exact ⟨i + 1, false, by omega, by go_num, rfl, HB.out, trivial⟩
          case measure => simp [intOf]; omega
        | true =>
          by_cases hu : u = 255
          · have huI : ((u.toNat : Int) == 255) = true := by rw [hu]; decide
            go_wp2_with fail
            go_roundw
            case rel => exact ⟨i + 1, true, by omega, by go_num, rfl, fun _ => rfl, trivial⟩
            case measure => simp [intOf]; omega
          · have huI : ((u.toNat : Int) == 255) = false := by
              have : u.toNat ≠ 255 := fun h => hu (UInt8.toNat_inj.1 h)
              simp; omega
            have HB' : Hid (H = ffs n → false = true) := fun h => by
              exfalso
              have h1 := HHI.out
              rw [h, ffs_get _ _ hlt] at h1
              injection h1 with h1
              exact hu h1.symm
            go_wp2_with fail
            go_roundw
            case rel => exact ⟨i + 1, false, by omega, by go_num, rfl, HB', trivial⟩
            case measure => simp [intOf]; omega
      · obtain rfl : i = n := by omega
        go_wp2_with fail
        go_meet
        exact ⟨⟨b, rfl, HB⟩, rfl⟩
  case rest =>
  obtain ⟨⟨b, rfl, HB⟩, hw⟩ := hcut
  subst hw
  obtain ⟨w11, rfl⟩ : ∃ w, w = wc := ⟨_, rfl⟩
  clear hy11'
  go_upto_block 2 with fail
  go_cut [17] (fun v17 w' => w' = w11)
  case first =>
    go_upto_region 17 with fail
    go_loopw [17] (fun v17 wr => ∃ (i : Nat), i ≤ n ∧ v17 = .int .i64 (i : Int) ∧ wr = w11) (fun v17 _ => n - (intOf v17).toNat)
    case atStart => exact ⟨0, Nat.zero_le _, rfl, rfl⟩
    case round =>
      obtain ⟨i, hi, rfl, rfl⟩ := hrel
      by_cases hlt : i < n
      · have hltI : (i : Int) < (n : Int) := by omega
        obtain ⟨g, o, rfl, hcell⟩ := hy13.at (k := i) (by rw [ffs_length]; exact hlt)
        have hcell' : wr.cell? ⟨g, o + i, none⟩ = some (.int .u8 255) := by
          rw [hcell]
          have : (ffs n)[i]'(by rw [ffs_length]; exact hlt) = 255 := by simp [ffs]
          rw [this]
          rfl
        clear hcell
        go_wp2_with fail
        go_roundw
        case rel => exact ⟨i + 1, by omega, by go_num, trivial⟩
        case measure => simp [intOf]; omega
      · obtain rfl : i = n := by omega
        go_wp2_with fail
        go_meet
        exact rfl
  case rest =>
  subst hcut
  obtain ⟨w11, rfl⟩ : ∃ w, w = wc := ⟨_, rfl⟩
  obtain ⟨b0, b1, b2, b3, b4⟩ := HQ.out _ hq11
  have z11 := hb110.size
  have q1 : ((n : Int) == (n : Int)) = true := by simp
  clear hy13 hq11
  rcases hcase with ⟨hfit, rfl⟩ | ⟨hfit, rfl, hHf⟩
  · have hfI : (m : Int) + 7 ≤ (n : Int) := by omega
    go_wp2_with (first
      | (go_at_call 53; refine (half_read_nil _ _).mono ?_; rintro e w' ⟨rfl, rfl⟩)
      | (go_at_call 55; refine (HRS.out _).mono ?_; rintro e w12 ⟨rfl, hb12⟩; have hR12 := hR11.below hb12; have hb120 := hb110.trans (hb12.mono z11))
      | (go_at_call 54; refine (half_size_zero _).mono ?_; rintro e w13 ⟨rfl, hb13⟩; have hR13 := hR12.below hb13; have hb130 := hb120.trans (hb13.mono hb120.size))
      | (go_at_call 56; refine (half_wipe_nil _ _).mono ?_; rintro e w' ⟨rfl, rfl⟩)
      | (go_at_call 52; first
          | (with_reducible refine (half_append_nil _ _ _ _ _ _).mono ?_); rintro e w' ⟨rfl, rfl⟩
          | (with_reducible refine (half_append hR13 (xk : Int) (-1) (by decide) none 0 0 [] (Byts.nil _ _) rfl (by decide) (by omega) E2.out).mono ?_); rintro e w14 ⟨rfl, hR14, ho14⟩
          | (with_reducible refine (half_append hR14 2 0 (by decide) none 0 0 [] (Byts.nil _ _) rfl (by decide) (by omega) E3.out).mono ?_); rintro e w15 ⟨rfl, hR15, ho15⟩))
    go_ret
    exact ⟨rfl, (hb130.trans (ho14.below (fun y hy => Nat.le_trans (Nat.le_succ _) (hR13.own2 y hy)) hb130.size)).trans (ho15.below (fun y hy => Nat.le_trans (Nat.le_succ _) (hR14.own2 y hy)) (hb130.trans (ho14.below (fun y hy => Nat.le_trans (Nat.le_succ _) (hR13.own2 y hy)) hb130.size)).size)⟩
  · have hfI : ¬ ((m : Int) + 7 ≤ (n : Int)) := by omega
    obtain rfl : b = true := HB.out hHf
    go_wp2_with (first
      | (go_at_call 53; refine (half_read_nil _ _).mono ?_; rintro e w' ⟨rfl, rfl⟩)
      | (go_at_call 55; refine (HRS.out _).mono ?_; rintro e w12 ⟨rfl, hb12⟩; have hR12 := hR11.below hb12; have hb120 := hb110.trans (hb12.mono z11))
      | (go_at_call 54; refine (half_size_zero _).mono ?_; rintro e w13 ⟨rfl, hb13⟩; have hR13 := hR12.below hb13; have hb130 := hb120.trans (hb13.mono hb120.size))
      | (go_at_call 56; refine (half_wipe_nil _ _).mono ?_; rintro e w' ⟨rfl, rfl⟩)
      | (go_at_call 52; first
          | (with_reducible refine (half_append_nil _ _ _ _ _ _).mono ?_); rintro e w' ⟨rfl, rfl⟩
          | (with_reducible refine (half_append hR13 (xk : Int) (-1) (by decide) none 0 0 [] (Byts.nil _ _) rfl (by decide) (by omega) E2.out).mono ?_); rintro e w14 ⟨rfl, hR14, ho14⟩
          | (with_reducible refine (half_append hR14 2 0 (by decide) none 0 0 [] (Byts.nil _ _) rfl (by decide) (by omega) E3.out).mono ?_); rintro e w15 ⟨rfl, hR15, ho15⟩))
    go_ret
    exact ⟨rfl, (hb130.trans (ho14.below (fun y hy => Nat.le_trans (Nat.le_succ _) (hR13.own2 y hy)) hb130.size)).trans (ho15.below (fun y hy => Nat.le_trans (Nat.le_succ _) (hR14.own2 y hy)) (hb130.trans (ho14.below (fun y hy => Nat.le_trans (Nat.le_succ _) (hR13.own2 y hy)) hb130.size)).size)⟩
end Go.Proofs.Ytcdgpioljilgeaa
