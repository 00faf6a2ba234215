/- The walks of the laws on chips of bits. -/
import Derived.Test.YtcdgpioljilgeaaRig
import Derived.Test.YtcdgpioljilgeaaHelp
import Derived.Deep.RegionHeld3
set_option linter.unusedVariables false
set_option maxRecDepth 100000
set_option linter.unusedSimpArgs false
namespace Go.Proofs.Ytcdgpioljilgeaa
open Go.RowKit

set_option maxHeartbeats 400000 in
theorem law04_small (w : World) : Calls Try.prog 24 #[] w fun e w' => e = .returned (smallG.val) ∧ Below w.heap.size w w' := by
  have hs0 : w.heap.size ≤ w.heap.size := Nat.le_refl _
  go_enter Try.func24, Try.ntmps24
  have hbx := Blk.new w [.int .i64 0, .int .i64 0, .int .i64 0, .int .i64 0, .int .i64 0] 23
  have hbel := below_alloc w (.cells [.int .i64 0, .int .i64 0, .int .i64 0, .int .i64 0, .int .i64 0].toArray 23 (0, 0))
  have hlt := hbx.lt
  go_wp2_with (go_at_call 16; refine (play_small _).mono ?_; rintro e w1 ⟨rfl, hb1⟩; have hbz := hbx.below hb1; have c0 := hbz.cell 0 _ rfl; have c1 := hbz.cell 1 _ rfl; have c2 := hbz.cell 2 _ rfl; have c3 := hbz.cell 3 _ rfl; have c4 := hbz.cell 4 _ rfl; have f0 := hbz.frz 0; have f1 := hbz.frz 1; have f2 := hbz.frz 2; have f3 := hbz.frz 3; have f4 := hbz.frz 4; have hz := hb1.size)
  have hq := ((((hbz.set 0 (.int .i64 2)).set 1 (.int .i64 256)).set 2 (.int .i64 4)).set 3 (.int .i64 2)).set 4 (.int .i64 16)
  have d0 := hq.cell 0 _ rfl
  have d1 := hq.cell 1 _ rfl
  have d2 := hq.cell 2 _ rfl
  have d3 := hq.cell 3 _ rfl
  have d4 := hq.cell 4 _ rfl
  refine bodyPost_ret (v := .agg #[.int .i64 2, .int .i64 256, .int .i64 4, .int .i64 2, .int .i64 16]) (by simp [results, Try.results24, go_sem, d0, d1, d2, d3, d4]) rfl ⟨rfl, ?_⟩
  exact (((((hbel.trans (hb1.mono hbel.size)).setCell hs0 _).setCell hs0 _).setCell hs0 _).setCell hs0 _).setCell hs0 _

/-- A byte onto erased ones. -/
theorem progE_first (n : Nat) (x : UInt8) (h : 0 < n) : progE PS.new (ffs n) 0 [x] = (0, splice (ffs n) 0 [x], PS.new.run 1) :=
  progE_run PS.new (ffs n) 0 [x] (by rw [ffs_length]; simp; omega) (bitsBad_ffs _ _ _ (by simp; omega)) rfl (by decide) (Or.inl (by decide))

set_option maxHeartbeats 2000000 in
theorem awake04 (w : World) : Calls Try.prog 15 #[] w fun e w' => e = .returned (.bool true) ∧ Below w.heap.size w w' := by
  obtain ⟨w0, rfl⟩ : ∃ w0 : World, w0 = w := ⟨_, rfl⟩
  have hs0 : w0.heap.size ≤ w0.heap.size := Nat.le_refl _
  have P1 := Lib.hid (progE_first 512 1 (by decide))
  have P2 := Lib.hid (show progE (PS.new.run 1) (splice (ffs 512) 0 [1]) 0 [2] = (9, splice (ffs 512) 0 [1], PS.new.run 1) from
    progE_bad (PS.new.run 1) _ 0 [2] (by rw [splice_length _ _ _ (by simp [ffs_length])]; simp [ffs_length]) (by decide))
  have R1 := Lib.hid (show readL (splice (ffs 512) 0 [1]) 0 2 = [1, 255] by decide)
  have L1 := Lib.hid (show (splice (ffs 512) 0 [1]).length = 512 by decide)
  have E1 := Lib.hid (show (([1, 255] : List UInt8) == [1, 255]) = true by decide)
  have hok := smallG_ok
  have d1 : PS.new.done + [(1 : UInt8)].length ≤ 1000000000000 := by decide
  have d2 : (PS.new.run 1).done + [(2 : UInt8)].length ≤ 1000000000000 := by decide
  generalize splice (ffs 512) 0 [1] = l1 at *
  generalize PS.new.run 1 = s1 at *
  have HN := Lib.hid smallG_size
  go_enter Try.func15, Try.ntmps15
  go_upto_region 2 with (first
    | (go_at_call 24; refine (law04_small _).mono ?_; rintro e w1 ⟨rfl, hb1⟩; have z1 := hb1.size)
    | (go_at_call 18; refine (pow_new _).mono ?_; rintro e w2 ⟨v, rfl, pb, rfl, hpg, hpl, hp2, hb2⟩; have z2 := hb2.size)
    | (go_at_call 17; refine (rig_new (B := w0.heap.size) (g := smallG) hp2 (by omega) (by omega) hok).mono ?_; rintro e w3 ⟨cb, bb, mb, rfl, hR, hb3⟩))
  rw [HN.out] at hR
  have hb30 := (hb1.trans (hb2.mono z1)).trans (hb3.mono (Nat.le_trans z1 z2))
  have z3 := hb30.size
  clear hb1 hb2 hb3 hp2
  have hl3 := hR.lt
  have o1 := byts_one w3 1
  have hRa := hR.below (below_alloc w3 (.cells #[.int .u8 1] 5))
  go_upto_region 4 with (go_at_call 19; refine (rig_program hRa 0 (by decide) _ 1 1 [1] o1 rfl (by decide) (fun _ y e => by cases e; simp; omega) d1 P1.out).mono ?_; rintro e w4 ⟨rfl, hR4, ho4⟩)
  have hb40 := (hb30.alloc hb30.size _).trans (ho4.below hR.own2 (by simp; omega))
  have z4 := hb40.size
  clear hR hRa ho4 o1 hb30
  go_upto_region 5 with (go_at_call 20; refine (rig_read (r := 0) hR4 0 2 (by decide) (by decide) (by rw [L1.out]; rfl) R1.out rfl).mono ?_; rintro e w5 ⟨A, c, rfl, hc, hby, hA, hb5⟩)
  have hR5 := hR4.below hb5
  have hb50 := hb40.trans (hb5.mono z4)
  have z5 := hb50.size
  clear hR4 hb5 hb40
  have o2 : Byts (w5.alloc (.cells #[.int .u8 1, .int .u8 255] 5)) (some ⟨w5.heap.size, 0, none⟩) [1, 255] := byts_cells w5 [1, 255] _
  have o3 := byts_one (w5.alloc (.cells #[.int .u8 1, .int .u8 255] 5)) 2
  rw [World.size_alloc] at o3
  have hbya := hby.alloc (.cells #[.int .u8 1, .int .u8 255] 5)
  have hRb := (hR5.below (below_alloc w5 (.cells #[.int .u8 1, .int .u8 255] 5))).below (below_alloc _ (.cells #[.int .u8 2] 5))
  have hl5 := hR5.lt
  go_wp2_with (first
    | (go_at_call 23; refine (help_bytes _ _ _ _ _ _ _ _ _ hbya rfl o2 rfl).mono ?_; rintro e w6 ⟨rfl, rfl⟩; rw [E1.out])
    | (go_at_call 19; refine (rig_program hRb 0 (by decide) _ 1 1 [2] o3 rfl (by decide) (fun _ y e => by cases e; simp; omega) d2 P2.out).mono ?_; rintro e w7 ⟨rfl, hR7, ho7⟩))
  go_ret
  exact ⟨rfl, ((hb50.alloc z5 _).alloc (by simp; omega) _).trans (ho7.below hRb.own2 (by simp; omega))⟩

/-! ### the geometry that a law makes -/

/-- A small geometry's numbers. -/
theorem playG_is (g : Geo) : ∃ sa sz gc gd ge : Nat, playG g = ⟨sa, sz, gc, gd, ge⟩ ∧ (Geo.mk sa sz gc gd ge).ok ∧ 2 ≤ sa ∧ sa ≤ 6 ∧ sa % 2 = 0 ∧ 256 ≤ sz ∧ sz ≤ 960 ∧ 4 ≤ gc ∧ gc ≤ 8 ∧ 2 ≤ gd ∧ gd ≤ 6 ∧ 16 ≤ ge ∧ ge ≤ 36 := by
  obtain ⟨h1, h2, h3, h4, h5⟩ := playG_bounds g
  have hok := playG_ok g
  refine ⟨2 + 2 * pmod g.a 3, 256 + 64 * pmod g.b 12, 4 + pmod g.c 5, 2 + pmod g.d 5, 16 + 4 * pmod g.e 6, ?_, ?_, by omega, by omega, by omega, by omega, by omega, by omega, by omega, by omega, by omega, by omega, by omega⟩
  · unfold playG
    simp
  · unfold playG at hok
    simpa using hok

theorem play_geometry_as (g0 g1 g2 g3 g4 : Int) (W : World) {sa sz gc gd ge : Nat} (h : playG ⟨g0, g1, g2, g3, g4⟩ = ⟨sa, sz, gc, gd, ge⟩) :
    Calls Try.prog 16 #[.agg #[.int .i64 g0, .int .i64 g1, .int .i64 g2, .int .i64 g3, .int .i64 g4]] W fun e w' => e = .returned (.agg #[.int .i64 (sa : Int), .int .i64 (sz : Int), .int .i64 (gc : Int), .int .i64 (gd : Int), .int .i64 (ge : Int)]) ∧ Below W.heap.size W w' := by
  have h1 := play_geometry ⟨g0, g1, g2, g3, g4⟩ W
  rw [h] at h1
  exact h1

/-- Five numbers in a block of the call's own are turned. -/
theorem box_turned {W1 : World} {xb : Nat} {T : TypeId} {v0 v1 v2 v3 v4 u0 u1 u2 u3 u4 : Value} (h : Blk W1 xb T [v0, v1, v2, v3, v4]) :
    Blk (((((W1.setCell ⟨xb, 0, none⟩ u0).setCell ⟨xb, 1, none⟩ u1).setCell ⟨xb, 2, none⟩ u2).setCell ⟨xb, 3, none⟩ u3).setCell ⟨xb, 4, none⟩ u4) xb T [u0, u1, u2, u3, u4] :=
  ((((h.set 0 u0).set 1 u1).set 2 u2).set 3 u3).set 4 u4
theorem box_below {W W1 : World} {xb B : Nat} {u0 u1 u2 u3 u4 : Value} (h : Below B W W1) (hx : B ≤ xb) :
    Below B W (((((W1.setCell ⟨xb, 0, none⟩ u0).setCell ⟨xb, 1, none⟩ u1).setCell ⟨xb, 2, none⟩ u2).setCell ⟨xb, 3, none⟩ u3).setCell ⟨xb, 4, none⟩ u4) :=
  ((((h.setCell hx _).setCell hx _).setCell hx _).setCell hx _).setCell hx _

theorem splice_at (n o : Nat) (a : List UInt8) (i : Nat) (h : o + a.length ≤ n) (hi : o + i < n) : (splice (ffs n) o a)[o + i]? = some (if i < a.length then a.getD i 0 else 255) := by
  rw [splice_get _ _ _ (by rw [ffs_length]; exact h), if_neg (by omega)]
  by_cases h1 : i < a.length
  · rw [if_pos (by omega), if_pos h1, show o + i - o = i by omega, List.getD_eq_getElem?_getD, List.getElem?_eq_getElem h1]
    rfl
  · rw [if_neg (by omega), if_neg h1]
    exact ffs_get _ _ hi

theorem readL_zero (l : List UInt8) (n : Nat) (h : n ≤ l.length) : askE l.length 0 (n : Int) = 0 ∧ readL l 0 (n : Int) = l.take n := by
  have h1 := askE_at (L := l.length) (o := 0) (n := n) (by omega)
  have h2 := readL_at l 0 n (by omega)
  exact ⟨by simpa using h1, by simpa using h2⟩

theorem orL_take (l : List UInt8) (o n : Nat) (m : UInt8) (h : o + n ≤ l.length) : (orL l o n m).take o = l.take o := by
  unfold orL
  rw [List.append_assoc, List.take_append_of_le_length (by rw [List.length_take]; omega), List.take_take, Nat.min_self]
theorem orL_ffs (l : List UInt8) (o n : Nat) (h : o + n ≤ l.length) : ((orL l o n 255).drop o).take n = ffs n := by
  apply List.ext_getElem?
  intro i
  by_cases hi : i < n
  · rw [List.getElem?_take_of_lt hi, List.getElem?_drop, orL_get l o n 255 h (o + i) (by omega), if_pos ⟨by omega, by omega⟩, ffs_get _ _ hi, or_255]
  · rw [List.getElem?_eq_none (by rw [List.length_take]; omega), List.getElem?_eq_none (by rw [ffs_length]; omega)]

set_option maxHeartbeats 8000000 in
theorem norBits_walk {w : World} (g0 g1 g2 g3 g4 : Int) (x : Int) (wx : (Lit.int .i64 x).wf = true)
    (A : Option Addr) (c : Nat) (a : List UInt8) (hcap : a.length ≤ c ∧ c ≤ maxLen) (hb : Byts w A a) (hl : a.length ≤ 140737488351232)
    (A' : Option Addr) (c' : Nat) (b : List UInt8) (hcap' : b.length ≤ c' ∧ c' ≤ maxLen) (hb' : Byts w A' b) (hl' : b.length ≤ 140737488351232) :
    Calls Try.prog 3 #[.agg #[.int .i64 g0, .int .i64 g1, .int .i64 g2, .int .i64 g3, .int .i64 g4], .int .i64 x, .slice A a.length c, .slice A' b.length c'] w fun e w' => e = .returned (.bool true) ∧ Below w.heap.size w w' := by
  obtain ⟨w0, rfl⟩ : ∃ w0 : World, w0 = w := ⟨_, rfl⟩
  have hs0 : w0.heap.size ≤ w0.heap.size := Nat.le_refl _
  have hbx := Blk.new w0 [.int .i64 g0, .int .i64 g1, .int .i64 g2, .int .i64 g3, .int .i64 g4] 23
  have hbel := below_alloc w0 (.cells [.int .i64 g0, .int .i64 g1, .int .i64 g2, .int .i64 g3, .int .i64 g4].toArray 23 (0, 0))
  have hlt0 := hbx.lt
  by_cases ha200 : 200 < a.length
  · go_enter Try.func3, Try.ntmps3
    go_wp2_with (go_at_call 15; refine (awake04 _).mono ?_; rintro e w2 ⟨rfl, hb2⟩)
    go_ret
    exact ⟨rfl, hbel.trans (hb2.mono hbel.size)⟩
  by_cases hb200 : 200 < b.length
  · go_enter Try.func3, Try.ntmps3
    go_wp2_with (go_at_call 15; refine (awake04 _).mono ?_; rintro e w2 ⟨rfl, hb2⟩)
    go_ret
    exact ⟨rfl, hbel.trans (hb2.mono hbel.size)⟩
  obtain ⟨sa, sz, gc, gd, ge, hG, hok, hsa1, hsa2, -, hsz1, hsz2, -⟩ := playG_is ⟨g0, g1, g2, g3, g4⟩
  have HG := Lib.hid (fun W => play_geometry_as g0 g1 g2 g3 g4 W hG)
  clear hG
  have b0 := hbx.cell 0 _ rfl
  have b1 := hbx.cell 1 _ rfl
  have b2 := hbx.cell 2 _ rfl
  have b3 := hbx.cell 3 _ rfl
  have b4 := hbx.cell 4 _ rfl
  go_enter Try.func3, Try.ntmps3
  go_upto_region 4 with (go_at_call 16; refine (HG.out _).mono ?_; rintro e w1 ⟨rfl, hb1⟩; have hz1 := hbx.below hb1; have e0 := hz1.cell 0 _ rfl; have e1 := hz1.cell 1 _ rfl; have e2 := hz1.cell 2 _ rfl; have e3 := hz1.cell 3 _ rfl; have e4 := hz1.cell 4 _ rfl; have f0 := hz1.frz 0; have f1 := hz1.frz 1; have f2 := hz1.frz 2; have f3 := hz1.frz 3; have f4 := hz1.frz 4; have hs1 := hb1.size)
  have hq := box_turned hz1 (u0 := .int .i64 (sa : Int)) (u1 := .int .i64 (sz : Int)) (u2 := .int .i64 (gc : Int)) (u3 := .int .i64 (gd : Int)) (u4 := .int .i64 (ge : Int))
  have hbq := box_below (hbel.trans (hb1.mono hbel.size)) hs0 (u0 := .int .i64 (sa : Int)) (u1 := .int .i64 (sz : Int)) (u2 := .int .i64 (gc : Int)) (u3 := .int .i64 (gd : Int)) (u4 := .int .i64 (ge : Int))
  clear hz1 e0 e1 e2 e3 e4 f0 f1 f2 f3 f4 b0 b1 b2 b3 b4 hbx hb1 hbel hs1 hlt0
  generalize (((((w1.setCell ⟨w0.heap.size, 0, none⟩ (.int .i64 (sa : Int))).setCell ⟨w0.heap.size, 1, none⟩ (.int .i64 (sz : Int))).setCell ⟨w0.heap.size, 2, none⟩ (.int .i64 (gc : Int))).setCell ⟨w0.heap.size, 3, none⟩ (.int .i64 (gd : Int))).setCell ⟨w0.heap.size, 4, none⟩ (.int .i64 (ge : Int))) = w3 at *
  have hs3 := hq.lt
  have hd3 : w3.drew.heap.size = w3.heap.size := rfl
  have HQ := Lib.hid (fun (W : World) (h : Blk W w0.heap.size 23 [.int .i64 (sa : Int), .int .i64 (sz : Int), .int .i64 (gc : Int), .int .i64 (gd : Int), .int .i64 (ge : Int)]) =>
    (And.intro (h.cell 0 _ rfl) (And.intro (h.cell 1 _ rfl) (And.intro (h.cell 2 _ rfl) (And.intro (h.cell 3 _ rfl) (h.cell 4 _ rfl)))) : W.cell? ⟨w0.heap.size, 0, none⟩ = some (.int .i64 (sa : Int)) ∧ W.cell? ⟨w0.heap.size, 1, none⟩ = some (.int .i64 (sz : Int)) ∧ W.cell? ⟨w0.heap.size, 2, none⟩ = some (.int .i64 (gc : Int)) ∧ W.cell? ⟨w0.heap.size, 3, none⟩ = some (.int .i64 (gd : Int)) ∧ W.cell? ⟨w0.heap.size, 4, none⟩ = some (.int .i64 (ge : Int))))
  go_region_held3 (fun w' => w'.cell? ⟨w0.heap.size, 0, none⟩ = some (.int .i64 (sa : Int)) ∧ w'.cell? ⟨w0.heap.size, 1, none⟩ = some (.int .i64 (sz : Int)) ∧ w'.cell? ⟨w0.heap.size, 2, none⟩ = some (.int .i64 (gc : Int)) ∧ w'.cell? ⟨w0.heap.size, 3, none⟩ = some (.int .i64 (gd : Int)) ∧ w'.cell? ⟨w0.heap.size, 4, none⟩ = some (.int .i64 (ge : Int)))
    (first | (with_reducible exact HQ.out _ hq) | (with_reducible exact HQ.out _ hq.drew) | (with_reducible exact HQ.out _ hq4) | (with_reducible exact HQ.out _ hq5))
    (first
      | (go_at_call 18; refine (pow_new _).mono ?_; rintro e w4 ⟨v, rfl, pb, rfl, hpg, hpl, hp4, hb4⟩; have hq4 := hq.drew.below hb4)
      | (go_at_call 17; refine (rig_new (B := w0.heap.size + 1) (g := ⟨sa, sz, gc, gd, ge⟩) hp4 (by omega) (by have := hb4.size; omega) hok).mono ?_; rintro e w5 ⟨cb, bb, mb, rfl, hR, hb5⟩; have hq5 := hq4.below hb5))
  have hb50 := (hbq.drew.trans (hb4.mono (by omega))).trans (hb5.mono (by have := hb4.size; omega))
  have z5 := hb50.size
  clear hb4 hb5 hbq hq hq4 hp4 HG hpg hpl hs3 hd3
  obtain ⟨M, hM⟩ : ∃ M, sa * sz = M + 200 := ⟨sa * sz - 200, by have := Nat.mul_le_mul hsa1 hsz1; omega⟩
  have hM1 : 312 ≤ M := by have := Nat.mul_le_mul hsa1 hsz1; omega
  have hM2 : M ≤ 5560 := by have := Nat.mul_le_mul hsa2 hsz2; omega
  have hLs : (((sa : Int) * (sz : Int)).toNat) = M + 200 := by rw [← Int.natCast_mul, Int.toNat_natCast, hM]
  rw [show (Geo.mk sa sz gc gd ge).a * (Geo.mk sa sz gc gd ge).b = (sa : Int) * (sz : Int) from rfl, hLs] at hR
  have hprod : IntKind.i64.wrap ((sz : Int) * (sa : Int)) = (M : Int) + 200 := by
    have : (sz : Int) * (sa : Int) = (M : Int) + 200 := by rw [Int.mul_comm, ← Int.natCast_mul, hM]; push_cast; rfl
    rw [this]; exact IntWalk.i64_in _ (by omega)
  have HP := Lib.hid hprod
  have HM := Lib.hid hM
  clear hM hprod hLs
  obtain ⟨o, ho⟩ : ∃ o, pmod x M = o := ⟨_, rfl⟩
  have hoM : o < M := by rw [← ho]; exact (pmod_is x M (by omega) (by omega)).2
  have HO := Lib.hid (show wrap64 ((IntKind.u64.wrap x).tmod (M : Int)) = (o : Int) by rw [← ho]; exact (pmod_is x M (by omega) (by omega)).1)
  clear ho
  obtain ⟨b0, b1, b2, b3, b4⟩ := HQ.out _ hq5
  go_upto_region 7 with (go_at_call 15; refine (awake04 _).mono ?_; rintro e w6 ⟨rfl, hb6⟩)
  have hR6 := hR.below hb6
  have hq6 := hq5.below hb6
  have hb60 := hb50.trans (hb6.mono z5)
  clear hR hq5 hb6 hb50 z5 b0 b1 b2 b3 b4
  obtain ⟨b0, b1, b2, b3, b4⟩ := HQ.out _ hq6
  have hprod := HP.out
  have hu : IntKind.u64.wrap (M : Int) = (M : Int) := by simp [IntKind.wrap, IntKind.bits, IntKind.signed]; omega
  have hn0 : ¬ (M : Int) = 0 := by omega
  have hn1 : ((M : Int) == 0) = false := by simp; omega
  go_upto_region 8 with fail
  rw [HO.out]
  clear hu hn0 hn1 hprod
  have hAx : 0 < a.length → ∀ y, A = some y → y.block ≠ bb ∧ y.block ≠ pb := fun h0 y e => by have h1 := hb.lt h0 y e; have h3 := hR6.own2 bb (by simp); have h4 := hR6.own2 pb (by simp); omega
  have hBx : 0 < b.length → ∀ y, A' = some y → y.block ≠ bb ∧ y.block ≠ pb := fun h0 y e => by have h1 := hb'.lt h0 y e; have h3 := hR6.own2 bb (by simp); have h4 := hR6.own2 pb (by simp); omega
  have hE1 := progE_run PS.new (ffs (M + 200)) o a (by rw [ffs_length]; omega) (bitsBad_ffs _ _ _ (by omega)) rfl (by decide) (Or.inl (by decide))
  have hat := fun i (hi : o + i < M + 200) => splice_at (M + 200) o a i (by omega) hi
  have hl1l : (splice (ffs (M + 200)) o a).length = M + 200 := by rw [splice_length _ _ _ (by rw [ffs_length]; omega), ffs_length]
  generalize splice (ffs (M + 200)) o a = l1 at *
  have hs1 : (PS.new.run a.length).off = false ∧ (PS.new.run a.length).left = -1 ∧ (PS.new.run a.length).done = 0 + a.length := ⟨rfl, rfl, rfl⟩
  have hd0 : PS.new.done + a.length ≤ 1000000000000 := by show 0 + a.length ≤ _; omega
  generalize PS.new.run a.length = s1 at *
  have E1 := Lib.hid hE1
  have HAT := Lib.hid hat
  have HL1 := Lib.hid hl1l
  have HS1 := Lib.hid hs1
  have hd1 : s1.done ≤ 200 := by omega
  clear hE1 hat hl1l hs1
  go_upto_region 12 with (go_at_call 19; refine (rig_program hR6 (o : Int) (by omega) _ _ _ a (hb.below hb60) rfl (by omega) hAx hd0 E1.out).mono ?_; rintro e w7 ⟨rfl, hR7, ho7⟩)
  have hq7 := hq6.only ho7 (by have h3 := hR6.own2 bb (by simp); have h4 := hR6.own2 pb (by simp); simp; omega)
  have hb70 := hR6.fresh (Nat.le_succ _) hb60 hs0 (ho7.mono (by simp))
  clear hR6 hq6 hb60 ho7 b0 b1 b2 b3 b4
  go_loopw [11, 12] (fun v11 v12 wr => ∃ (i : Nat) (q : Bool), i ≤ b.length ∧ v12 = .int .i64 (i : Int) ∧ v11 = .bool q ∧ Hid ((q && !bitsBad l1 (o + i) (b.drop i)) = !bitsBad l1 o b) ∧ Rig (w0.heap.size + 1) wr cb bb mb pb [pb] ⟨sa, sz, gc, gd, ge⟩ l1 0 (fun _ => 0) s1 ∧ Below w0.heap.size w0 wr ∧ Blk wr w0.heap.size 23 [.int .i64 (sa : Int), .int .i64 (sz : Int), .int .i64 (gc : Int), .int .i64 (gd : Int), .int .i64 (ge : Int)]) (fun _ v12 _ => b.length - (intOf v12).toNat)
  case atStart => exact ⟨0, true, Nat.zero_le _, rfl, rfl, (by show _ = _; simp), hR7, hb70, hq7⟩
  case round =>
    clear hR7 hb70 hq7
    obtain ⟨i, q, hi, rfl, rfl, HB, hR, hbel, hq⟩ := hrel
    by_cases hlt : i < b.length
    · go_upto_if 75 with fail
      go_cut [13] (fun v13 w' => ∃ av : UInt8, v13 = .int .u8 (av.toNat : Int) ∧ Hid (l1[o + i]? = some av) ∧ w' = wr)
      case first =>
        have hati := HAT.out i (by omega)
        by_cases hia : i < a.length
        · rw [if_pos hia, List.getD_eq_getElem?_getD, List.getElem?_eq_getElem hia] at hati
          obtain ⟨a', offa, rfl, hca⟩ := (hb.below hbel).at hia
          have HATI := Lib.hid hati
          clear hati
          go_wp2_with fail
          go_meet
          exact ⟨a[i], rfl, HATI.out, rfl⟩
        · rw [if_neg hia] at hati
          have HATI := Lib.hid hati
          clear hati
          go_wp2_with fail
          go_meet
          exact ⟨255, rfl, HATI.out, rfl⟩
      case rest =>
        obtain ⟨av, rfl, HAV, rfl⟩ := hcut
        have hoi : o + i < l1.length := by have := HL1.out; omega
        have hav : l1[o + i] = av := by have := HAV.out; rw [List.getElem?_eq_getElem hoi] at this; exact Option.some.inj this
        obtain ⟨b', off', rfl, hcb⟩ := (hb'.below hbel).at hlt
        have hst := bitsBad_step l1 o b i hlt hoi
        rw [bit_sub, hav] at hst
        generalize b[i] = bv at *
        have HST := Lib.hid hst
        have hand := and_u8 bv av
        have q0 : (0 : Int) ≤ (i : Int) := by omega
        have q1 : (i : Int) < (b.length : Int) := by omega
        clear hst hav hoi
        cases q with
        | false =>
          clear hand
          have hB2 := HB.out
          have HB2 := Lib.hid (show (false && !bitsBad l1 (o + (i + 1)) (b.drop (i + 1))) = !bitsBad l1 o b by rw [← hB2]; rfl)
          clear hB2 HB HST
          go_upto_region 17 with fail
          go_quiet (fail)
          clear hcb
          go_wp2_with fail
          go_roundw
          case rel => exact ⟨i + 1, false, by omega, by go_num, rfl, HB2.out, hR.drewN nq, below_drewN hbel nq, hq.drewN nq⟩
          case measure => simp [intOf]; omega
        | true =>
          by_cases hbit : (bv &&& av) = bv
          · have HB2 := Lib.hid (show (true && !bitsBad l1 (o + (i + 1)) (b.drop (i + 1))) = !bitsBad l1 o b by rw [← HB.out, HST.out, hbit]; simp)
            rw [hbit] at hand
            clear hbit HB HST
            go_upto_region 17 with fail
            go_quiet (fail)
            clear hcb hand
            go_wp2_with fail
            go_roundw
            case rel => exact ⟨i + 1, true, by omega, by go_num, rfl, HB2.out, hR.drewN nq, below_drewN hbel nq, hq.drewN nq⟩
            case measure => simp [intOf]; omega
          · have HB2 := Lib.hid (show (false && !bitsBad l1 (o + (i + 1)) (b.drop (i + 1))) = !bitsBad l1 o b by rw [← HB.out, HST.out]; simp [hbit])
            have hne : ¬ ((bv &&& av).toNat : Int) = (bv.toNat : Int) := fun e => hbit (UInt8.toNat_inj.1 (by exact_mod_cast e))
            generalize (bv &&& av) = nv at *
            have hne2 : ((nv.toNat : Int) == (bv.toNat : Int)) = false := by simpa using hne
            clear hbit HB HST
            go_upto_region 17 with fail
            go_quiet (fail)
            clear hcb hand
            go_wp2_with fail
            go_roundw
            case rel => exact ⟨i + 1, false, by omega, by go_num, rfl, HB2.out, hR.drewN nq, below_drewN hbel nq, hq.drewN nq⟩
            case measure => simp [intOf]; omega
    · obtain rfl : i = b.length := by omega
      have hqq : q = !bitsBad l1 o b := by have := HB.out; rw [bitsBad_end] at this; simpa using this
      obtain ⟨r, l2, s2, hE2, hl2, hs2, hrq⟩ : ∃ r l2 s2, progE s1 l1 o b = (r, l2, s2) ∧ l2.length = M + 200 ∧ (s2.off = false ∧ s2.left = -1 ∧ s2.done ≤ 400) ∧ ((q = true ∧ r = 0) ∨ (q = false ∧ r = 9)) := by
        cases hbad : bitsBad l1 o b with
        | true => exact ⟨9, l1, s1, progE_bad s1 l1 o b (by have := HL1.out; omega) hbad, HL1.out, ⟨HS1.out.1, HS1.out.2.1, by omega⟩, Or.inr ⟨by rw [hqq, hbad]; rfl, rfl⟩⟩
        | false =>
          have hle : s1.left = -1 := HS1.out.2.1
          refine ⟨0, _, _, progE_run s1 l1 o b (by have := HL1.out; omega) hbad HS1.out.1 (by omega) (Or.inl (by omega)), ?_, ⟨HS1.out.1, ?_, ?_⟩, Or.inl ⟨by rw [hqq, hbad]; rfl, rfl⟩⟩
          · rw [splice_length _ _ _ (by have := HL1.out; omega)]; exact HL1.out
          · unfold PS.run; simp only; rw [if_pos (by omega)]; exact hle
          · unfold PS.run; simp only; omega
      have E2 := Lib.hid hE2
      have HS2 := Lib.hid hs2
      have HL2 := Lib.hid hl2
      have hd2 : s2.done ≤ 400 := hs2.2.2
      clear hqq HB hE2 hs2 hl2 hlt hi
      obtain ⟨si, hsi⟩ : ∃ si, o / sz = si := ⟨_, rfl⟩
      have hdv : (o : Int) / (sz : Int) = (si : Int) := by rw [← hsi]; rfl
      obtain ⟨lo, hlo⟩ : ∃ lo, si * sz = lo := ⟨_, rfl⟩
      have hlo1 : lo ≤ o := by rw [← hlo, ← hsi]; exact Nat.div_mul_le_self o sz
      have hsia : si < sa := by
        rw [← hsi]
        refine Nat.div_lt_of_lt_mul ?_
        rw [Nat.mul_comm, HM.out]
        omega
      have hlo2 : lo + sz ≤ M + 200 := by
        have h1 : si * sz + sz ≤ sa * sz := by rw [← Nat.succ_mul]; exact Nat.mul_le_mul_right _ hsia
        rw [HM.out, hlo] at h1
        exact h1
      have hprod2 : IntKind.i64.wrap ((si : Int) * (sz : Int)) = (lo : Int) := by rw [← Int.natCast_mul, hlo]; exact IntWalk.i64_in _ (by omega)
      have hE3 : eraseE ⟨sa, sz, gc, gd, ge⟩ s2 l2 (fun _ => 0) (si : Int) = (0, orL l2 lo sz 255, s2.next, upC (fun _ => 0) (si : Int)) := by
        have hle : s2.left = -1 := HS2.out.2.1
        unfold eraseE
        rw [if_pos ⟨by omega, by show (si : Int) < (sa : Int); omega⟩, if_pos (PS.did_on HS2.out.1 (by omega))]
        simp only [Int.toNat_natCast, hlo]
      have hup : upC (fun _ => 0) (si : Int) (si : Int) = 1 := by simp [upC]
      have hl3 : (orL l2 lo sz 255).length = M + 200 := by rw [orL_length _ _ _ _ (by have := HL2.out; omega)]; exact HL2.out
      have R1 := Lib.hid (readL_zero l2 lo (by have := HL2.out; omega))
      have R2 := Lib.hid (readL_zero (orL l2 lo sz 255) lo (by omega))
      have R3 := Lib.hid (And.intro (askE_at (L := (orL l2 lo sz 255).length) (o := lo) (n := sz) (by omega)) (readL_at (orL l2 lo sz 255) lo sz (by omega)))
      have R4 := Lib.hid (And.intro (orL_take l2 lo sz 255 (by have := HL2.out; omega)) (orL_ffs l2 lo sz (by have := HL2.out; omega)))
      have E3 := Lib.hid hE3
      have HUP := Lib.hid hup
      have HPL := Lib.hid (show (l2.take lo).length = lo by rw [List.length_take]; have := HL2.out; omega)
      clear hsi hlo hE3 hup hl3
      rcases hrq with ⟨rfl, rfl⟩ | ⟨rfl, rfl⟩
      all_goals
        go_upto_region 19 with (go_at_call 19; refine (rig_program hR (o : Int) (by omega) _ _ _ b (hb'.below hbel) rfl (by omega) hBx (by omega) E2.out).mono ?_; rintro e w8 ⟨rfl, hR8, ho8⟩)
        have hq8 := hq.only ho8 (by have h3 := hR.own2 bb (by simp); have h4 := hR.own2 pb (by simp); simp; omega)
        have hb80 := hR.fresh (Nat.le_succ _) hbel hs0 (ho8.mono (by simp))
        clear hR hq hbel ho8
        obtain ⟨b0, b1, b2, b3, b4⟩ := HQ.out _ hq8
        go_upto_region 21 with fail
        have hz0 : ¬ (sz : Int) = 0 := by omega
        have hz1 : ¬ sz = 0 := by omega
        go_upto_region 22 with fail
        go_upto_region 23 with (go_at_call 20; refine (rig_read hR8 0 (lo : Int) (by decide) (by omega) R1.out.1 R1.out.2 HPL.out).mono ?_; rintro e w9 ⟨A9, c9, rfl, hc9, hby9, hA9, hb9⟩)
        have hR9 := hR8.below hb9
        have hq9 := hq8.below hb9
        have hb90 := hb80.trans (hb9.mono hb80.size)
        have hl9 := hR8.lt
        have hm9 := hR8.c.lt mb (by simp)
        clear hR8 hq8 hb80 hb9 b0 b1 b2 b3 b4
        go_upto_region 25 with (first
          | (go_at_call 21; refine (rig_erase hR9 (by decide) (si : Int) (by omega) (by omega) E3.out).mono ?_; rintro e w10 ⟨rfl, hR10, ho10⟩)
          | (go_at_call 22; refine (nor_erases hR10.c (si : Int) (by omega)).mono ?_; rintro e w' ⟨rfl, rfl⟩; rw [HUP.out]))
        have hq10 := hq9.only ho10 (by have h3 := hR9.own bb (by simp); have h4 := hR9.own pb (by simp); have h5 := hR9.own mb (by simp); simp; omega)
        have hb100 := hR9.fresh (Nat.le_succ _) hb90 hs0 ho10
        have hby10 := hby9.only ho10 (fun y e _ => by have := hA9 y e; simp; omega)
        clear hR9 hq9 hb90 ho10 hby9
        obtain ⟨b0, b1, b2, b3, b4⟩ := HQ.out _ hq10
        go_upto_region 26 with (go_at_call 20; refine (rig_read hR10 0 (lo : Int) (by decide) (by omega) R2.out.1 (R2.out.2.trans R4.out.1) HPL.out).mono ?_; rintro e w11 ⟨A11, c11, rfl, hc11, hby11, hA11, hb11⟩)
        have hR11 := hR10.below hb11
        have hq11 := hq10.below hb11
        have hb110 := hb100.trans (hb11.mono hb100.size)
        have hby10a := hby10.below hb11
        clear hR10 hq10 hb100 hb11 hby10 b0 b1 b2 b3 b4
        obtain ⟨b0, b1, b2, b3, b4⟩ := HQ.out _ hq11
        go_upto_region 28 with (go_at_call 20; refine (rig_read hR11 (lo : Int) (sz : Int) (by omega) (by omega) R3.out.1 (R3.out.2.trans R4.out.2) (ffs_length sz)).mono ?_; rintro e w12 ⟨A12, c12, rfl, hc12, hby12, hA12, hb12⟩)
        have hq12 := hq11.below hb12
        have hb120 := hb110.trans (hb12.mono hb110.size)
        have hby10b := hby10a.below hb12
        have hby11b := hby11.below hb12
        clear hR11 hq11 hb110 hb12 hby10a hby11 b0 b1 b2 b3 b4
        obtain ⟨b0, b1, b2, b3, b4⟩ := HQ.out _ hq12
        have hxx : (l2.take lo == l2.take lo) = true := by simp
        have HXX := Lib.hid hxx
        clear hxx
        go_loop [22] (fun v22 => ∃ k : Nat, k ≤ sz ∧ v22 = .int .i64 (k : Int)) (fun v22 => sz - (intOf v22).toNat)
        case atStart => exact ⟨0, Nat.zero_le _, rfl⟩
        case round =>
          obtain ⟨k, hk, rfl⟩ := hrel
          by_cases hlt : k < sz
          · obtain ⟨b12, o12, rfl, hc12k⟩ := hby12.at (k := k) (by rw [ffs_length]; exact hlt)
            rw [show (ffs sz)[k]'(by rw [ffs_length]; exact hlt) = 255 by simp [ffs]] at hc12k
            go_wp2_with fail
            go_round
            case rel => exact ⟨k + 1, by omega, by go_num⟩
            case measure => simp [intOf]; omega
          · obtain rfl : k = sz := by omega
            go_wp2_with (go_at_call 23; refine (help_bytes _ _ _ _ _ _ _ _ _ hby10b HPL.out.symm hby11b HPL.out.symm).mono ?_; rintro e w' ⟨rfl, rfl⟩; rw [HXX.out])
            go_ret
            exact ⟨rfl, hb120⟩
end Go.Proofs.Ytcdgpioljilgeaa
