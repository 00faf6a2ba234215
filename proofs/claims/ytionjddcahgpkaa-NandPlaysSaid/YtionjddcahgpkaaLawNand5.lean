/- The walk of NandPlays. -/
import Derived.Test.YtionjddcahgpkaaNandTw
import Derived.Test.YtionjddcahgpkaaNandG
import Derived.Deep.RegionHeldLaw
import Derived.RegionTactic
import Derived.Laws.StructEq
import Derived.Lib.Builder
set_option linter.unusedVariables false
set_option maxRecDepth 100000
set_option linter.unusedSimpArgs false
namespace Go.Proofs.Ytionjddcahgpkaa
open Go.RowKit

set_option maxHeartbeats 16000000 in
theorem nandPlays_walk {w : World} (g0 g1 g2 g3 g4 : Int) (AF : Option Addr) (cF : Nat) (fl : List Int) (hcapF : fl.length ≤ cF ∧ cF ≤ maxLen) (hiF : Ints w AF fl) (hwF : ∀ x ∈ fl, (Lit.int .i64 x).wf = true) (hlF : fl.length * 8 ≤ 140737488351232)
    (A : Option Addr) (c : Nat) (ops : List OpD) (hcap : ops.length ≤ c ∧ c ≤ maxLen) (h : OpsD w A ops) :
    Calls Try.prog 5 #[.agg #[.int .i64 g0, .int .i64 g1, .int .i64 g2, .int .i64 g3, .int .i64 g4], .slice AF fl.length cF, .slice A ops.length c] w fun e w' => e = .returned (.bool true) ∧ Below w.heap.size w w' := by
  obtain ⟨w0, rfl⟩ : ∃ w0 : World, w0 = w := ⟨_, rfl⟩
  have hl63 : ops.length ≤ 9223372036854775807 := Nat.le_trans hcap.1 hcap.2
  have hs0 : w0.heap.size ≤ w0.heap.size := Nat.le_refl _
  have hFl : ∀ x, AF = some x → 0 < fl.length → x.block < w0.heap.size := fun x e h0 => by
    rcases hiF with rfl | ⟨b, off, rfl, hc⟩
    · simp at h0
    · cases e
      exact World.block_lt_of_cell? w0 _ (hc 0 h0)
  have hbx := Blk.new w0 [.int .i64 g0, .int .i64 g1, .int .i64 g2, .int .i64 g3, .int .i64 g4] 23
  have hbel := below_alloc w0 (.cells [.int .i64 g0, .int .i64 g1, .int .i64 g2, .int .i64 g3, .int .i64 g4].toArray 23 (0, 0))
  have hlt0 := hbx.lt
  obtain ⟨sa, sz, gc, gd, ge, hG, hok, hsa1, hsa2, -, hsz1, hsz2, hgc1, hgc2, hgd1, hgd2, hge1, hge2⟩ := playG_is ⟨g0, g1, g2, g3, g4⟩
  have HG := Lib.hid (fun W => play_geometry_as g0 g1 g2 g3 g4 W hG)
  clear hG
  have b0 := hbx.cell 0 _ rfl
  have b1 := hbx.cell 1 _ rfl
  have b2 := hbx.cell 2 _ rfl
  have b3 := hbx.cell 3 _ rfl
  have b4 := hbx.cell 4 _ rfl
  go_enter Try.func5, Try.ntmps5
  go_upto_region 2 with (go_at_call 7; refine (HG.out _).mono ?_; rintro e w1 ⟨rfl, hb1⟩; have hz1 := hbx.below hb1; have e0 := hz1.cell 0 _ rfl; have e1 := hz1.cell 1 _ rfl; have e2 := hz1.cell 2 _ rfl; have e3 := hz1.cell 3 _ rfl; have e4 := hz1.cell 4 _ rfl; have f0 := hz1.frz 0; have f1 := hz1.frz 1; have f2 := hz1.frz 2; have f3 := hz1.frz 3; have f4 := hz1.frz 4; have hs1 := hb1.size)
  have hq := box_turned hz1 (u0 := .int .i64 (sa : Int)) (u1 := .int .i64 (sz : Int)) (u2 := .int .i64 (gc : Int)) (u3 := .int .i64 (gd : Int)) (u4 := .int .i64 (ge : Int))
  have hbq := box_below (hbel.trans (hb1.mono hbel.size)) hs0 (u0 := .int .i64 (sa : Int)) (u1 := .int .i64 (sz : Int)) (u2 := .int .i64 (gc : Int)) (u3 := .int .i64 (gd : Int)) (u4 := .int .i64 (ge : Int))
  clear hz1 e0 e1 e2 e3 e4 f0 f1 f2 f3 f4 b0 b1 b2 b3 b4 hbx hb1 hbel hs1 hlt0
  generalize (((((w1.setCell ⟨w0.heap.size, 0, none⟩ (.int .i64 (sa : Int))).setCell ⟨w0.heap.size, 1, none⟩ (.int .i64 (sz : Int))).setCell ⟨w0.heap.size, 2, none⟩ (.int .i64 (gc : Int))).setCell ⟨w0.heap.size, 3, none⟩ (.int .i64 (gd : Int))).setCell ⟨w0.heap.size, 4, none⟩ (.int .i64 (ge : Int))) = w3 at *
  have hs3 := hq.lt
  by_cases hlong : 50 < fl.length
  · have hl2 : (50 : Int) < (fl.length : Int) := by omega
    go_wp2_with (go_at_call 10; refine (awake05 _).mono ?_; rintro e w6 ⟨rfl, hx⟩)
    go_ret
    exact ⟨rfl, hbq.trans (hx.mono hbq.size)⟩
  have hl2 : ¬ (50 : Int) < (fl.length : Int) := by omega
  obtain ⟨q3, hq3e⟩ : ∃ q, w0.heap.size = q := ⟨_, rfl⟩
  have HQ3 := Lib.hid hq3e
  rw [hq3e] at hq hs3 ⊢
  clear hq3e
  have HQ : Hid (∀ (W : World), Blk W q3 23 [.int .i64 (sa : Int), .int .i64 (sz : Int), .int .i64 (gc : Int), .int .i64 (gd : Int), .int .i64 (ge : Int)] → W.cell? ⟨q3, 0, none⟩ = some (.int .i64 (sa : Int)) ∧ W.cell? ⟨q3, 1, none⟩ = some (.int .i64 (sz : Int)) ∧ W.cell? ⟨q3, 2, none⟩ = some (.int .i64 (gc : Int)) ∧ W.cell? ⟨q3, 3, none⟩ = some (.int .i64 (gd : Int)) ∧ W.cell? ⟨q3, 4, none⟩ = some (.int .i64 (ge : Int))) := fun W h =>
    ⟨h.cell 0 _ rfl, h.cell 1 _ rfl, h.cell 2 _ rfl, h.cell 3 _ rfl, h.cell 4 _ rfl⟩
  go_upto_region 5 with (first
    | (go_at_call 9; refine (pow_new _).mono ?_; rintro e w4 ⟨v, rfl, pb, rfl, hpg, hpl, hp4, hb4⟩)
    | (go_at_call 23; refine (rpow_new _).mono ?_; rintro e w5 ⟨v, rfl, qb, rfl, hqg, hql, hp5, hb5⟩))
  have hq5 := (hq.below hb4).below hb5
  have hp45 := hp4.below hb5
  have hx5 := hb4.trans (hb5.mono hb4.size)
  have z4 := hb4.size
  have z5 := hb5.size
  obtain ⟨b0, b1, b2, b3, b4⟩ := HQ.out _ hq5
  clear hq hp4 hb4 hb5
  go_upto_region 6 with (go_at_call 8; refine (nand_new ⟨sa, sz, gc, gd, ge⟩ (some ⟨pb, 0, none⟩) _ hok).mono ?_; rintro e w6 ⟨cb, m1, m2, m3, rfl, hlt6, hc6, hb6⟩)
  have hq6 := hq5.below hb6
  have hp6 := hp5.below hb6
  have hp46 := hp45.below hb6
  have hx6 := hx5.trans (hb6.mono hx5.size)
  have z6 := hb6.size
  obtain ⟨c0, c1, c2, c3, c4⟩ := HQ.out _ hq6
  clear hq5 hp45 hp5 hb6 hx5 b0 b1 b2 b3 b4
  obtain ⟨nn, hnn⟩ : ∃ nn, gc * gd * (ge + 16) = nn := ⟨_, rfl⟩
  have hnn2 : nn ≤ 65536 := by rw [← hnn]; exact Nat.le_trans (Nat.mul_le_mul (Nat.mul_le_mul hgc2 hgd2) (by omega : ge + 16 ≤ 52)) (by decide)
  have HNW := Lib.hid (fun W => rnand_new sa sz gc gd ge nn (some ⟨qb, 0, none⟩) W hok hnn hnn2)
  clear hnn
  go_upto_region 7 with (go_at_call 24; refine (HNW.out _).mono ?_; rintro e w7 ⟨hb7, rb, bb, nb, kb, rfl, hge7, hr7⟩)
  have hq7 := hq6.below hb7
  have hx7 := hx6.trans (hb7.mono hx6.size)
  obtain ⟨jp, hjp⟩ := Option.isSome_iff_exists.1 (show (Try.prog.info? 74).isSome = true by kernel_rfl)
  have hnp := fun W => Lib.run_neq_ptr_same (P := Try.prog) W ⟨pb, 0, none⟩ Try.underlying30 hjp
  clear hjp jp
  have hC6 := hc6 _ (fun x hx => (hlt6 x hx).2) (Nat.le_refl _)
  have HC6 := Lib.hid hC6
  have hcl := fun x hx => (hlt6 x hx).1
  have HGE : Hid (∀ W, Below w6.heap.size w6 W → Calls Try.prog 25 #[.pointer (some ⟨cb, 0, none⟩)] W fun e w' => e = .returned (.agg #[.int .i64 (sa : Int), .int .i64 (sz : Int), .int .i64 (gc : Int), .int .i64 (gd : Int), .int .i64 (ge : Int)]) ∧ Below W.heap.size W w') := fun W hW => nand_geometry (HC6.out.below hW)
  have HPO : Hid (∀ W, Below w6.heap.size w6 W → Calls Try.prog 26 #[.pointer (some ⟨cb, 0, none⟩)] W fun e w' => e = .returned (.pointer (some ⟨pb, 0, none⟩)) ∧ W = w') := fun W hW => nand_power (HC6.out.below hW)
  have hX := hb7.drew
  have hqd := hq7.drew
  have a0 := HQ.out _ hqd
  have HQ7 := Lib.hid hq7
  have hX7 := (Below.refl w7.heap.size w7).drew
  clear hc6 hC6 c0 c1 c2 c3 c4 HNW HG hq6
  go_region_held3 (fun w' => w'.cell? ⟨q3, 0, none⟩ = some (.int .i64 (sa : Int)) ∧ w'.cell? ⟨q3, 1, none⟩ = some (.int .i64 (sz : Int)) ∧ w'.cell? ⟨q3, 2, none⟩ = some (.int .i64 (gc : Int)) ∧ w'.cell? ⟨q3, 3, none⟩ = some (.int .i64 (gd : Int)) ∧ w'.cell? ⟨q3, 4, none⟩ = some (.int .i64 (ge : Int)))
    (first | (with_reducible exact a0) | (with_reducible exact a1) | (with_reducible exact a2))
    (first
      | (go_at_call 10; refine (awake05 _).mono ?_; rintro e w8 ⟨rfl, hb8⟩; have hX8 := hX.trans (hb8.mono hX.size); have hX78 := hX7.trans (hb8.mono hX7.size); have a1 := HQ.out _ (HQ7.out.below hX78))
      | (go_at_call 25; (with_reducible refine (HGE.out _ hX8).mono ?_); rintro e w9 ⟨rfl, hb9⟩; have hX9 := hX8.trans (hb9.mono hX8.size); have hX79 := hX78.trans (hb9.mono hX78.size); have a2 := HQ.out _ (HQ7.out.below hX79))
      | (go_at_call 26; (with_reducible refine (HPO.out _ hX9).mono ?_); rintro e w' ⟨rfl, rfl⟩))
  clear a0 a1 a2 hX hqd HGE HPO hX8 hX78 hb8 hb9 hX7
  have hC9 := HC6.out.raise (hb7.trans (hX79.mono hb7.size))
  have hP9 := hp46.below (hb7.trans (hX79.mono hb7.size))
  have hQ9 := hp6.below (hb7.trans (hX79.mono hb7.size))
  have hR9 := hr7.below hX79
  have hG9 := HQ7.out.below hX79
  have hbel9 : Below w0.heap.size w0 w9 := hbq.trans ((hx7.trans (hX79.mono hx7.size)).mono hbq.size)
  have hpq : Hid (w0.heap.size ≤ pb ∧ pb < qb ∧ (∀ x ∈ [cb, m1, m2, m3], qb < x) ∧ (∀ x ∈ [cb, m1, m2, m3], x < w6.heap.size) ∧ (∀ x ∈ [rb, bb, nb, kb], w6.heap.size ≤ x) ∧ (∀ x ∈ [rb, bb, nb, kb], x < w9.heap.size) ∧ w0.heap.size ≤ q3 ∧ q3 < pb) := by
    have hq := HQ3.out
    have h3 := hbq.size
    exact ⟨by omega, by omega, fun x hx => by have := hcl x hx; omega, fun x hx => (hlt6 x hx).2, hge7, hR9.lt, by omega, by omega⟩
  have hiF9 := hiF.below hbel9
  have hApb : ∀ x, AF = some x → 0 < fl.length → x.block ≠ pb := fun x e h0 => by have := hFl x e h0; have := hpq.out.1; omega
  clear HC6 hp46 hp6 hr7 HQ7 hb7 hX79 hx7 hx6 hge7 hlt6 hcl hnn2 hnp hq7
  obtain ⟨L, hL⟩ : ∃ L, w9.heap.size = L := ⟨_, rfl⟩
  rw [hL] at hC9
  have HL9 := Lib.hid hL
  clear hL
  go_upto_region 10 with (go_at_call 19; refine (pow_fail pb [pb] PS.new AF cF fl _ hP9 hiF9 hwF hApb (by omega)).mono ?_; rintro e w10 ⟨rfl, ⟨mb, hmb, hP10⟩, ho10⟩)
  have hC10 := hC9.only ho10 (fun x hx hx2 => by have := hpq.out.2.2.1 x hx; simp at hx2; have := hpq.out.2.1; omega) (fun x hx => by simp at hx; subst hx; have := hpq.out.2.1; have := hQ9.lt qb hQ9.mem; have := HL9.out; omega)
  have hQ10 := hQ9.only ho10 (fun x hx hx2 => by simp at hx hx2; have := hpq.out.2.1; omega)
  have hR10 := hR9.only ho10 (fun x hx hx2 => by have h1 := hpq.out.2.2.2.2.1 x hx; have h2 := hpq.out.2.2.1 cb (by simp); have h3 := hpq.out.2.2.2.1 cb (by simp); simp at hx2; have := hpq.out.2.1; omega)
  have hG10 := hG9.only ho10 (by simp; have := hpq.out.2.2.2.2.2.2.2; omega)
  have hbel10 := hbel9.trans (ho10.below (fun x hx => by simp at hx; subst hx; exact hpq.out.1) hbel9.size)
  have hiF10 := hiF.below hbel10
  clear hC9 hP9 hQ9 hR9 hG9 hbel9 hiF9 ho10
  have hqsz := hQ10.lt qb hQ10.mem
  have hmb' : L ≤ mb := by rw [← HL9.out]; exact hmb
  obtain ⟨GP, hQ11, hGP⟩ := hQ10.whichArg (c := cF) hiF10 (fun x e h0 => by have h1 := hFl x e h0; have h2 := hpq.out.1; have h3 := hpq.out.2.1; have h4 := hbel10.size; omega) (by omega)
  obtain ⟨AR, cR, hqb⟩ := hQ10.blk
  have q4 := hqb.cell 4 _ rfl
  have q4f := hqb.frz 4
  have ho11 : Only [qb] w10 (w10.setCell ⟨qb, 4, none⟩ (.slice AF fl.length cF)) := (Only.refl _ _).setCell (by simp) _
  have hC11 := hC10.only ho11 (fun x hx hx2 => by have := hpq.out.2.2.1 x hx; simp at hx2; omega) (fun x hx => by simp at hx; subst hx; have h2 := hpq.out.2.2.1 cb (by simp); have h3 := hC10.up cb (by simp); omega)
  have hP11 := hP10.only ho11 (fun x hx hx2 => by simp at hx hx2; have := hpq.out.2.1; have h2 := hpq.out.2.2.1 cb (by simp); have h3 := hC10.up cb (by simp); omega)
  have hR11 := hR10.only ho11 (fun x hx hx2 => by have h1 := hpq.out.2.2.2.2.1 x hx; have h2 := hpq.out.2.2.1 cb (by simp); have h3 := hpq.out.2.2.2.1 cb (by simp); simp at hx2; omega)
  have hG11 := hG10.only ho11 (by simp; have := hpq.out.2.2.2.2.2.2.2; have := hpq.out.2.1; omega)
  have hbel11 := hbel10.trans (ho11.below (fun x hx => by simp at hx; subst hx; have := hpq.out.1; have := hpq.out.2.1; omega) hbel10.size)
  have hMT : Meet w0.heap.size L cb m1 m2 m3 pb rb bb nb kb qb [pb, mb] GP := by
    have e0 := hpq.out.1
    have e1 := hpq.out.2.1
    have hu := hC10.up
    have hl := hpq.out.2.2.2.2.2.1
    have h2 := hpq.out.2.2.1
    have h3 := hpq.out.2.2.2.1
    have h4 := hpq.out.2.2.2.2.1
    have k1 := h2 cb (by simp)
    have k2 := hu cb (by simp)
    have k3 := h3 cb (by simp)
    refine ⟨fun x hx => ?_, fun x hx => ?_, fun x hx hx2 => ?_, fun hx => ?_, fun hx => ?_, fun x hx => ?_, fun x hx => ?_⟩
    · rcases List.mem_append.1 (show x ∈ [cb, m1, m2, m3] ++ [pb] by simpa using hx) with hx | hx
      · have := h2 x hx; have := hu x hx; omega
      · simp at hx; omega
    · rcases List.mem_append.1 (show x ∈ [rb, bb, nb, kb] ++ [qb] by simpa using hx) with hx | hx
      · have := h4 x hx; have := hl x hx; have := HL9.out; omega
      · simp at hx; omega
    · rcases List.mem_append.1 (show x ∈ [cb, m1, m2, m3] ++ [pb] by simpa using hx) with hx | hx <;> rcases List.mem_append.1 (show x ∈ [rb, bb, nb, kb] ++ [qb] by simpa using hx2) with hx2 | hx2
      · have := h3 x hx; have := h4 x hx2; omega
      · have := h2 x hx; simp at hx2; omega
      · have := h4 x hx2; simp at hx; omega
      · simp at hx hx2; omega
    · have := h2 pb hx; omega
    · have := h4 qb hx; omega
    · simp at hx
      rcases hx with rfl | rfl
      · exact Or.inl rfl
      · exact Or.inr hmb'
    · rcases hGP x hx with rfl | ⟨a, e, h0, rfl⟩
      · exact Or.inl rfl
      · exact Or.inr (hFl a e h0)
  have hNA : NA (w10.setCell ⟨qb, 4, none⟩ (.slice AF fl.length cF)) L cb m1 m2 m3 pb sa sz gc gd ge [pb, mb] 0 (nNew ⟨sa, sz, gc, gd, ge⟩) (PS.new.failOn fl) := ⟨hC11, hP11⟩
  have hNB : NB (w10.setCell ⟨qb, 4, none⟩ (.slice AF fl.length cF)) rb bb nb kb qb sa sz gc gd ge GP 0 (nNew ⟨sa, sz, gc, gd, ge⟩) (PS.new.failOn fl) := ⟨⟨_, hR11⟩, hQ11⟩
  have hq3L : Hid (w0.heap.size ≤ q3 ∧ q3 ∉ [m1, m2, m3, pb] ∧ q3 ∉ [bb, nb, kb, qb]) := by
    have e1 := hpq.out.2.1
    have e2 := hpq.out.2.2.2.2.2.2.2
    have h2 := hpq.out.2.2.1
    have h3 := hpq.out.2.2.2.1 cb (by simp)
    have h4 := hpq.out.2.2.2.2.1
    have k0 := h2 cb (by simp)
    refine ⟨hpq.out.2.2.2.2.2.2.1, fun hx => ?_, fun hx => ?_⟩
    · rcases List.mem_append.1 (show q3 ∈ [m1, m2, m3] ++ [pb] by simpa using hx) with hx | hx
      · have := h2 q3 (by simp at hx ⊢; omega); omega
      · simp at hx; omega
    · rcases List.mem_append.1 (show q3 ∈ [bb, nb, kb] ++ [qb] by simpa using hx) with hx | hx
      · have := h4 q3 (by simp at hx ⊢; omega); omega
      · simp at hx; omega
  clear hC10 hQ10 hR10 hG10 hbel10 hiF10 hP10 hC11 hP11 hR11 hQ11 ho11 hGP hqb hqsz hpq hmb hmb'
  go_upto_region 11 with fail
  generalize w10.setCell ⟨qb, 4, none⟩ (.slice AF fl.length cF) = w11 at *
  have hd0 : (PS.new.failOn fl).done ≤ 0 := Nat.le_refl _
  generalize nNew ⟨sa, sz, gc, gd, ge⟩ = n0 at *
  generalize PS.new.failOn fl = s0 at *
  clear q4 q4f hiF hwF hApb HL9 hFl
  go_upto_region 12 with fail
  go_loopw [13] (fun v13 wr => ∃ (i : Nat) (n : NSt) (s : PS), i ≤ ops.length ∧ i ≤ 60 ∧ v13 = .int .i64 (i : Int) ∧ NA wr L cb m1 m2 m3 pb sa sz gc gd ge [pb, mb] (40 * i) n s ∧ NB wr rb bb nb kb qb sa sz gc gd ge GP (40 * i) n s ∧ s.done ≤ i ∧ Blk wr q3 23 [.int .i64 (sa : Int), .int .i64 (sz : Int), .int .i64 (gc : Int), .int .i64 (gd : Int), .int .i64 (ge : Int)] ∧ Below w0.heap.size w0 wr) (fun v13 _ => 60 - (intOf v13).toNat)
  case atStart => exact ⟨0, n0, s0, Nat.zero_le _, by decide, rfl, hNA, hNB, hd0, hG11, hbel11⟩
  case round =>
    clear hNA hNB hG11 hbel11 hd0
    obtain ⟨i, n, s, hi, hi60, rfl, hA, hB, hdn, hG, hbel⟩ := hrel
    by_cases hlt : i < ops.length
    · by_cases hlt2 : i < 60
      · rcases h with rfl | ⟨b, off, rfl, hc⟩
        · simp at hlt
        obtain ⟨AL, cl, AS, cs, ho0, ⟨hyd0, hcd0⟩, ⟨hys0, hcs0⟩, hatb, hpgb, hnb⟩ := hc i hlt
        have ho : ∀ j u, [Value.int .i64 ops[i].kind, .int .i64 ops[i].blk, .int .i64 ops[i].pag, .int .i64 ops[i].n, .int .u8 (ops[i].mask.toNat : Int), .slice AL ops[i].d.length cl, .slice AS ops[i].sp.length cs][j]? = some u → wr.cell? ⟨b, off + i * 7 + j, none⟩ = some u :=
          fun j u hu => (hbel.cell (World.block_lt_of_cell? w0 _ (ho0 j u hu))).trans (ho0 j u hu)
        clear ho0
        generalize ops[i] = o at *
        rcases o with ⟨kind, x, y, nn, mask, ds, ss⟩
        have x0 : wr.cell? ⟨b, off + i * 7, none⟩ = some (.int .i64 kind) := ho 0 _ rfl
        have x1 : wr.cell? ⟨b, off + i * 7 + 1, none⟩ = some (.int .i64 x) := ho 1 _ rfl
        have x2 : wr.cell? ⟨b, off + i * 7 + 2, none⟩ = some (.int .i64 y) := ho 2 _ rfl
        have x3 : wr.cell? ⟨b, off + i * 7 + 3, none⟩ = some (.int .i64 nn) := ho 3 _ rfl
        have x4 : wr.cell? ⟨b, off + i * 7 + 4, none⟩ = some (.int .u8 (mask.toNat : Int)) := ho 4 _ rfl
        have x5 : wr.cell? ⟨b, off + i * 7 + 5, none⟩ = some (.slice AL ds.length cl) := ho 5 _ rfl
        have x6 : wr.cell? ⟨b, off + i * 7 + 6, none⟩ = some (.slice AS ss.length cs) := ho 6 _ rfl
        simp only at hyd0 hcd0 hys0 hcs0 hatb hpgb hnb
        clear hc ho
        go_upto_block 2 with fail
        have hbo := Blk.new wr [.int .i64 kind, .int .i64 x, .int .i64 y, .int .i64 nn, .int .u8 (mask.toNat : Int), .slice AL ds.length cl, .slice AS ss.length cs] 58
        have hbx := below_alloc wr (.cells [.int .i64 kind, .int .i64 x, .int .i64 y, .int .i64 nn, .int .u8 (mask.toNat : Int), .slice AL ds.length cl, .slice AS ss.length cs].toArray 58 (0, 0))
        have hbs : wr.heap.size < (wr.alloc (.cells [.int .i64 kind, .int .i64 x, .int .i64 y, .int .i64 nn, .int .u8 (mask.toNat : Int), .slice AL ds.length cl, .slice AS ss.length cs].toArray 58 (0, 0))).heap.size := by simp
        generalize wr.alloc (.cells [.int .i64 kind, .int .i64 x, .int .i64 y, .int .i64 nn, .int .u8 (mask.toNat : Int), .slice AL ds.length cl, .slice AS ss.length cs].toArray 58 (0, 0)) = w1 at *
        have hLr : L ≤ wr.heap.size := hA.c.le
        have hA1 := hA.below hbx
        have hB1 := hB.below hbx
        have hG1 := hG.below hbx
        have hyd1 := (hyd0.below hbel).below hbx
        have hys1 := (hys0.below hbel).below hbx
        have hbel1 := hbel.trans (hbx.mono hbel.size)
        have hdlt : ∀ a, AL = some a → 0 < ds.length → a.block < w0.heap.size := hyd0.ltD
        have hslt : ∀ a, AS = some a → 0 < ss.length → a.block < w0.heap.size := hys0.ltD
        have hbo0 : w0.heap.size ≤ wr.heap.size := hbel.size
        have hbsz : Hid (wr.heap.size ≤ w1.heap.size) := hbx.size
        have hb1r : w1.heap.size ≤ w1.heap.size := Nat.le_refl _
        have HWR : Hid (∀ W, Below wr.heap.size wr W → (NA W L cb m1 m2 m3 pb sa sz gc gd ge [pb, mb] (40 * i) n s ∧ NB W rb bb nb kb qb sa sz gc gd ge GP (40 * i) n s) ∧ Blk W q3 23 [.int .i64 (sa : Int), .int .i64 (sz : Int), .int .i64 (gc : Int), .int .i64 (gd : Int), .int .i64 (ge : Int)] ∧ Below w0.heap.size w0 W ∧ Byts W AL ds ∧ Byts W AS ss) := fun W hW => ⟨⟨hA.below hW, hB.below hW⟩, hG.below hW, hbel.trans (hW.mono hbel.size), (hyd0.below hbel).below hW, (hys0.below hbel).below hW⟩
        have hXr := hbx
        clear hA hB hG hyd0 hys0 hbel hbx x0 x1 x2 x3 x4 x5 x6
        generalize wr.heap.size = bo at *
        go_cut [15] (fun v15 w' => v15 = .bool true ∧ ∃ (n2 : NSt) (s2 : PS) (x2 y2 : Int), NA w' L cb m1 m2 m3 pb sa sz gc gd ge [pb, mb] (40 * (i + 1)) n2 s2 ∧ NB w' rb bb nb kb qb sa sz gc gd ge GP (40 * (i + 1)) n2 s2 ∧ s2.done ≤ i + 1 ∧ Blk w' bo 58 [.int .i64 kind, .int .i64 x2, .int .i64 y2, .int .i64 nn, .int .u8 (mask.toNat : Int), .slice AL ds.length cl, .slice AS ss.length cs] ∧ Hid ((-9223372036854775808 ≤ x2 ∧ x2 ≤ 9223372036854775807) ∧ -9223372036854775808 ≤ y2 ∧ y2 ≤ 9223372036854775807) ∧ Blk w' q3 23 [.int .i64 (sa : Int), .int .i64 (sz : Int), .int .i64 (gc : Int), .int .i64 (gd : Int), .int .i64 (ge : Int)] ∧ Below w0.heap.size w0 w')
        case first =>
          have hs1 := hbel1.size
          have c0 := hbo.cell 0 _ rfl
          have c1 := hbo.cell 1 _ rfl
          have c2 := hbo.cell 2 _ rfl
          have c3 := hbo.cell 3 _ rfl
          have c4 := hbo.cell 4 _ rfl
          have c5 := hbo.cell 5 _ rfl
          have c6 := hbo.cell 6 _ rfl
          have hnL : bo ∉ [m1, m2, m3, pb] := fun hm => by have := hMT.a bo (by simp at hm ⊢; omega); omega
          have hnR : bo ∉ [bb, nb, kb, qb] := fun hm => by have := hMT.b bo (by simp at hm ⊢; omega); omega
          have hgL := hq3L.out.2.1
          have hgR := hq3L.out.2.2
          have hNb : 40 * i ≤ 1000000000 := by omega
          have hdb : s.done ≤ 900000000000 := by omega
          by_cases hk1 : kind = 1
          · as_aux_lemma =>
              subst hk1
              obtain ⟨r, n2, s2, hE⟩ : ∃ r n2 s2, nErase ⟨sa, sz, gc, gd, ge⟩ s n x = (r, n2, s2) := ⟨_, _, _, rfl⟩
              have hd2 := PS.nErase_done ⟨sa, sz, gc, gd, ge⟩ s n x
              rw [hE] at hd2
              have E := Lib.hid hE
              clear hE
              have hrr : (r == r) = true := by simp
              have hA1d := hA1.drewN 1
              have hB1d := hB1.drewN 1
              have hbd := hbo.drew
              have hGd := hG1.drew
              have hbeld := hbel1.drew
              have d0 := hbd.cell 1 _ rfl
              clear hA1 hB1 hbo hG1 hyd1 hys1 hbel1 c0 c2 c3 c4 c5 c6
              go_upto_region 26 with fail
              go_region_held3 (fun w' => w'.cell? ⟨bo, 1, none⟩ = some (.int .i64 x))
                (first | (with_reducible exact c1) | (with_reducible exact d0) | (with_reducible exact d1) | (with_reducible exact e1))
                (first
                  | (go_at_call 13; refine (na_erase hA1d hMT hNb x hatb hdb E.out).mono ?_; rintro e w2 ⟨rfl, hA2, ho2⟩; have hbo2 := hbd.only ho2 hnL; have d1 := hbo2.cell 1 _ rfl; have hB2 := hB1d.off hMT ho2)
                  | (go_at_call 27; refine (nb_erase hB2 hMT hNb x hatb hdb E.out).mono ?_; rintro e w3 ⟨rfl, hB3, ho3⟩; have hbo3 := hbo2.only ho3 hnR; have e1 := hbo3.cell 1 _ rfl; have hA3 := hA2.off hMT ho3))
              go_wp2_with fail
              go_meet
              exact ⟨rfl, n2, s2, x, y, hA3.mono (by omega), hB3.mono (by omega), by omega, hbo3, ⟨hatb, hpgb⟩, (hGd.only ho2 hgL).only ho3 hgR, hMT.freshB (hMT.fresh hbeld hbeld.size ho2) (Nat.le_trans hbeld.size ho2.size) ho3⟩
          have hk1' : (kind == 1) = false := beq_eq_false_iff_ne.2 hk1
          clear hk1
          by_cases hk2 : kind = 2
          · as_aux_lemma =>
              subst hk2
              clear hk1'
              obtain ⟨AR, cR, hrb⟩ := hB1.q.blk
              have r0 := hrb.cell 0 _ rfl
              clear hrb
              cases hoff : s.off with
              | true =>
                rw [hoff] at r0
                clear hoff
                go_wp2_with fail
                go_meet
                exact ⟨rfl, n, s, x, y, hA1.mono (by omega), hB1.mono (by omega), by omega, hbo, ⟨hatb, hpgb⟩, hG1, hbel1⟩
              | false =>
                rw [hoff] at r0
                clear hoff
                go_upto_region 30 with (go_at_call 18; refine (na_cut hA1 hMT nn mask hnb.2).mono ?_; rintro e w2 ⟨rfl, hA2, ho2⟩)
                have hB2 := hB1.off hMT ho2
                have hbo2 := hbo.only ho2 hnL
                have hG2 := hG1.only ho2 hgL
                have d3 := hbo2.cell 3 _ rfl
                have d4 := hbo2.cell 4 _ rfl
                have hb2 := hMT.fresh hbel1 hbel1.size ho2
                clear r0 ho2 hA1 hB1 hbo hbel1 c0 c1 c2 c3 c4 c5 c6
                go_wp2_with (go_at_call 28; refine (nb_cut hB2 hMT nn mask hnb.2).mono ?_; rintro e w3 ⟨rfl, hB3, ho3⟩)
                go_meet
                exact ⟨rfl, n, _, x, y, (hA2.off hMT ho3).mono (by omega), hB3.mono (by omega), by show s.done ≤ _; omega, hbo2.only ho3 hnR, ⟨hatb, hpgb⟩, hG2.only ho3 hgR, hMT.freshB hb2 hb2.size ho3⟩
          have hk2' : (kind == 2) = false := beq_eq_false_iff_ne.2 hk2
          clear hk2
          by_cases hk3 : kind = 3
          · as_aux_lemma =>
              subst hk3
              clear hk1' hk2'
              go_upto_region 33 with (go_at_call 20; refine (na_on hA1 hMT).mono ?_; rintro e w2 ⟨rfl, hA2, ho2⟩)
              have hB2 := hB1.off hMT ho2
              have hbo2 := hbo.only ho2 hnL
              have hG2 := hG1.only ho2 hgL
              have hb2 := hMT.fresh hbel1 hbel1.size ho2
              clear ho2 hA1 hB1 hbo hbel1 c0 c1 c2 c3 c4 c5 c6
              go_wp2_with (go_at_call 29; refine (nb_on hB2 hMT).mono ?_; rintro e w3 ⟨rfl, hB3, ho3⟩)
              go_meet
              exact ⟨rfl, n, _, x, y, (hA2.off hMT ho3).mono (by omega), hB3.mono (by omega), by show s.done ≤ _; omega, hbo2.only ho3 hnR, ⟨hatb, hpgb⟩, hG2.only ho3 hgR, hMT.freshB hb2 hb2.size ho3⟩
          have hk3' : (kind == 3) = false := beq_eq_false_iff_ne.2 hk3
          clear hk3
          as_aux_lemma =>
            clear hA1 hB1 hG1
            by_cases hbig : 300 < ds.length
            · have hbI : (300 : Int) < (ds.length : Int) := by omega
              clear hdlt hslt hyd1 hys1 hcd0 hcs0
              go_wp2_with fail
              go_ret
              exact ⟨rfl, hbel1⟩
            have hbI : ¬ (300 : Int) < (ds.length : Int) := by omega
            by_cases hbig2 : 100 < ss.length
            · have hbI2 : (100 : Int) < (ss.length : Int) := by omega
              clear hdlt hslt hyd1 hys1 hcd0 hcs0
              go_wp2_with fail
              go_ret
              exact ⟨rfl, hbel1⟩
            have hbI2 : ¬ (100 : Int) < (ss.length : Int) := by omega
            go_upto_region 19 with fail
            go_quiet (fail)
            have hboq := hbo.below (w' := w1.drewN nq) (below_drewN (Below.refl _ _) nq)
            have hydq := hyd1.drewN nq
            have hysq := hys1.drewN nq
            have hX1 : Below bo wr (w1.drewN nq) := below_drewN hXr nq
            have c0q := hboq.cell 0 _ rfl
            clear hbo hyd1 hys1 c0 c1 c2 c3 c4 c5 c6 hbel1
            obtain ⟨wq, hwq⟩ : ∃ wq, w1.drewN nq = wq := ⟨_, rfl⟩
            rw [hwq] at hboq hydq hysq hX1 c0q ⊢
            clear hwq
            go_upto_if 108 with fail
            go_cut [16, 17] (fun v16 v17 wc => ∃ (x2 y2 : Int) (d2 s2 : List UInt8) (A16 A17 : Option Addr) (c16 c17 : Nat), v16 = .slice A16 d2.length c16 ∧ v17 = .slice A17 s2.length c17 ∧ Hid (d2.length ≤ 300 ∧ s2.length ≤ 100) ∧ Byts wc A16 d2 ∧ Byts wc A17 s2 ∧ Hid (∀ a, A16 = some a → 0 < d2.length → a.block < w0.heap.size ∨ L ≤ a.block) ∧ Hid (∀ a, A17 = some a → 0 < s2.length → a.block < w0.heap.size ∨ L ≤ a.block) ∧ Blk wc bo 58 [.int .i64 kind, .int .i64 x2, .int .i64 y2, .int .i64 nn, .int .u8 (mask.toNat : Int), .slice AL ds.length cl, .slice AS ss.length cs] ∧ Hid ((-9223372036854775808 ≤ x2 ∧ x2 ≤ 9223372036854775807) ∧ -9223372036854775808 ≤ y2 ∧ y2 ≤ 9223372036854775807) ∧ Below bo wr wc)
            case first =>
              by_cases hk4 : kind = 4
              · as_aux_lemma =>
                  subst hk4
                  obtain ⟨xb, hxb, hxb2⟩ := mod_len x gc (by omega) (by omega)
                  have HXB := Lib.hid hxb
                  have hgcu : IntKind.u64.wrap (gc : Int) = (gc : Int) := by
                    have e : IntKind.u64.wrap (gc : Int) = (gc : Int) % 18446744073709551616 := by simp [IntKind.wrap, IntKind.bits, IntKind.signed]
                    rw [e]; omega
                  have hgc0 : gc ≠ 0 := by omega
                  have hgcI : (gc : Int) ≠ 0 := by omega
                  clear hxb
                  have d1 := hboq.cell 1 _ rfl
                  have d1f := hboq.frz 1
                  have g2 := (HWR.out _ hX1).2.1.cell 2 _ rfl
                  have hbset := hboq.set 1 (.int .i64 (xb : Int))
                  have hXs : Below bo wr (wq.setCell ⟨bo, 1, none⟩ (.int .i64 (xb : Int))) := hX1.setCell (Nat.le_refl _) _
                  clear hboq hydq hysq hX1 c0q
                  go_upto_region 22 with fail
                  rw [HXB.out]
                  have hbk : Blk (wq.setCell ⟨bo, 1, none⟩ (.int .i64 (xb : Int))) bo 58 [.int .i64 4, .int .i64 (xb : Int), .int .i64 y, .int .i64 nn, .int .u8 (mask.toNat : Int), .slice AL ds.length cl, .slice AS ss.length cs] := hbset
                  clear hbset d1 d1f g2
                  generalize wq.setCell ⟨bo, 1, none⟩ (.int .i64 (xb : Int)) = wk at *
                  have HSC : Hid (∀ W, Below bo wr W → W.cell? ⟨rb, 7, none⟩ = some (.slice (some ⟨nb, 0, none⟩) gc gc) ∧ W.cell? ⟨nb, xb, none⟩ = some (.int .i64 (n.nx (xb : Int))) ∧ W.cell? ⟨q3, 4, none⟩ = some (.int .i64 (ge : Int))) := fun W hW => by
                    obtain ⟨⟨-, hBW⟩, hGW, -⟩ := HWR.out W hW
                    obtain ⟨lW, hrW⟩ := hBW.r
                    exact ⟨hrW.blk.cell 7 _ rfl, hrW.nx.cell xb _ (cntCells_get hxb2), hGW.cell 4 _ rfl⟩
                  have hnxb := (HWR.out _ hXs).1.1.c.n.nx (xb : Int)
                  have HNX := Lib.hid hnxb
                  clear hnxb
                  generalize n.nx (xb : Int) = ny at *
                  have hbkd := hbk.drew
                  have hX := hXs.drew
                  have k2 := hbk.cell 2 _ rfl
                  have S0 := And.intro (hbk.cell 1 _ rfl) (HSC.out _ hXs)
                  have S1 := And.intro (hbkd.cell 1 _ rfl) (HSC.out _ hX)
                  have HF2 : Hid (∀ W, Byts W AS ss → Calls Try.prog 11 #[.slice AS ss.length cs, .int .i64 16] W (Ret fun v w' => ∃ q, v = .slice (some ⟨q, 0, none⟩) 16 16 ∧ W.heap.size ≤ q ∧ Own w' W.heap.size v (fitL ss 16) ∧ Below W.heap.size W w')) := fun W h => law_fit AS ss.length cs ss 16 W h rfl (by omega)
                  have hxbI : (xb : Int) < (gc : Int) := by omega
                  have hxb0 : (0 : Int) ≤ (xb : Int) := by omega
                  go_region_held3 (fun w' => w'.cell? ⟨bo, 1, none⟩ = some (.int .i64 (xb : Int)) ∧ w'.cell? ⟨rb, 7, none⟩ = some (.slice (some ⟨nb, 0, none⟩) gc gc) ∧ w'.cell? ⟨nb, xb, none⟩ = some (.int .i64 ny) ∧ w'.cell? ⟨q3, 4, none⟩ = some (.int .i64 (ge : Int)))
                    (first | (with_reducible exact S0) | (with_reducible exact S1) | (with_reducible exact S2) | (with_reducible exact S3) | (with_reducible exact S4))
                    (first
                      | (go_at_call 11; (with_reducible refine (law_fit AL ds.length cl ds ge _ (HWR.out _ hX).2.2.2.1 rfl (by omega)).mono ?_); rintro e w2 ⟨v, rfl, q1, rfl, hq1, hown1, hx⟩; have hX2 := hX.trans (hx.mono (Nat.le_of_lt hbkd.lt)); have hb2 := hbkd.below hx; have S2 := And.intro (hb2.cell 1 _ rfl) (HSC.out _ hX2))
                      | (go_at_call 11; (with_reducible refine (HF2.out _ (HWR.out _ hX2).2.2.2.2).mono ?_); rintro e w3 ⟨v, rfl, q2, rfl, hq2, hown2, hx⟩; have hX3 := hX2.trans (hx.mono (Nat.le_of_lt hb2.lt)); have hb3 := hb2.below hx; have hown1 := hown1.below hx; have S3 := And.intro (hb3.cell 1 _ rfl) (HSC.out _ hX3); have z2 := hb3.cell 2 _ rfl; have z2f := hb3.frz 2; have hb4 := hb3.set 2 (.int .i64 ny); have hX4 := hX3.setCell (p := ⟨bo, 2, none⟩) (Nat.le_refl _) (.int .i64 ny); have S4 := And.intro (hb4.cell 1 _ rfl) (HSC.out _ hX4)))
                  have hq1b : bo < q1 := Nat.lt_of_lt_of_le hbkd.lt hq1
                  have hq2b : bo < q2 := Nat.lt_of_lt_of_le hb2.lt hq2
                  have hLbo : L ≤ bo := hLr
                  have hy1 := hown1.read.only ((Only.refl [bo] w3).setCell (p := ⟨bo, 2, none⟩) (by simp) (.int .i64 ny)) (fun a e h0 => by cases e; simp; omega)
                  have hy2 := hown2.read.only ((Only.refl [bo] w3).setCell (p := ⟨bo, 2, none⟩) (by simp) (.int .i64 ny)) (fun a e h0 => by cases e; simp; omega)
                  have HFF := Lib.hid (And.intro hb4 (And.intro hX4 (And.intro hy1 hy2)))
                  clear S0 S1 S2 S3 S4 hb4 hX4 hy1 hy2 hown1 hown2 hb3 hX3 hb2 hX2 hbkd hX hbk hXs HSC z2 z2f k2 hx
                  go_wp2_with fail
                  go_meet
                  exact ⟨xb, ny, fitL ds ge, fitL ss 16, some ⟨q1, 0, none⟩, some ⟨q2, 0, none⟩, ge, 16, by rw [fitL_length], by rw [fitL_length], ⟨by rw [fitL_length]; omega, by rw [fitL_length]; omega⟩, HFF.out.2.2.1, HFF.out.2.2.2, fun a e h0 => by cases e; right; show L ≤ q1; omega, fun a e h0 => by cases e; right; show L ≤ q2; omega, HFF.out.1, ⟨by omega, by have := HNX.out; omega⟩, HFF.out.2.1⟩
              · have hk4' : (kind == 4) = false := beq_eq_false_iff_ne.2 hk4
                clear hk4
                go_wp2_with fail
                go_meet
                exact ⟨x, y, ds, ss, AL, AS, cl, cs, rfl, rfl, ⟨by omega, by omega⟩, hydq, hysq, fun a e h0 => Or.inl (hdlt a e h0), fun a e h0 => Or.inl (hslt a e h0), hboq, ⟨hatb, hpgb⟩, hX1⟩
            case rest =>
              as_aux_lemma =>
                obtain ⟨x2, y2, d2, sp2, A16, A17, c16, c17, rfl, rfl, hlens, hy16, hy17, hA16, hA17, hbc, hxy, hXc⟩ := hcut
                clear hboq hydq hysq hX1 c0q hXr
                have HO1 : Hid (∀ W, Byts W A16 d2 → Calls Try.prog 30 #[.slice A16 d2.length c16, .int .u8 71] W (Ret fun v w' => ∃ g, v = .slice (some ⟨g, 0, none⟩) d2.length (d2.length + 3) ∧ Byts w' (some ⟨g, 0, none⟩) (d2 ++ [71, 71, 71]) ∧ Below W.heap.size W w' ∧ W.heap.size ≤ g)) := fun W h => own_byte A16 d2.length c16 d2 71 W h rfl (by have := hlens.out; omega)
                have HO2 : Hid (∀ W, Byts W A17 sp2 → Calls Try.prog 30 #[.slice A17 sp2.length c17, .int .u8 71] W (Ret fun v w' => ∃ g, v = .slice (some ⟨g, 0, none⟩) sp2.length (sp2.length + 3) ∧ Byts w' (some ⟨g, 0, none⟩) (sp2 ++ [71, 71, 71]) ∧ Below W.heap.size W w' ∧ W.heap.size ≤ g)) := fun W h => own_byte A17 sp2.length c17 sp2 71 W h rfl (by have := hlens.out; omega)
                have hLbo : L ≤ bo := hLr
                have hboc := hbc.lt
                go_upto_region 24 with (first
                  | (go_at_call 30; (with_reducible refine (HO1.out _ hy16).mono ?_); rintro e w4 ⟨v, rfl, ga, rfl, hin4, hb4, hga⟩; have hy17' := hy17.below hb4)
                  | (go_at_call 30; (with_reducible refine (HO2.out _ hy17').mono ?_); rintro e w5 ⟨v, rfl, gs, rfl, hin5, hb5, hgs⟩))
                have hX5 : Below bo wr w5 := (hXc.trans (hb4.mono (Nat.le_of_lt hboc))).trans (hb5.mono (Nat.le_trans (Nat.le_of_lt hboc) hb4.size))
                have hb5o := (hbc.below hb4).below hb5
                have hya := (hy16.below hb4).below hb5
                have hys := hy17'.below hb5
                have hina := hin4.below hb5
                have hgaL : L ≤ ga := by omega
                have hgsL : L ≤ gs := by have := hb4.size; omega
                clear hy16 hy17 hy17' hbc hXc hb4 hb5 hin4 HO1 HO2
                have hX5d := hX5.drew
                obtain ⟨⟨hA5, hB5⟩, hG5, hbel5, -⟩ := HWR.out _ hX5d
                have hb5d := hb5o.drew
                have hyad := hya.below (Below.refl _ _).drew
                have hysd := hys.below (Below.refl _ _).drew
                have hinad := hina.below (Below.refl _ _).drew
                have hinsd := hin5.below (Below.refl _ _).drew
                have S0 := And.intro (hb5o.cell 1 _ rfl) (hb5o.cell 2 _ rfl)
                have S1 := And.intro (hb5d.cell 1 _ rfl) (hb5d.cell 2 _ rfl)
                obtain ⟨r, n2, s2, hE⟩ : ∃ r n2 s2, nProg ⟨sa, sz, gc, gd, ge⟩ s n x2 y2 d2 sp2 = (r, n2, s2) := ⟨_, _, _, rfl⟩
                have hd2 := PS.nProg_done ⟨sa, sz, gc, gd, ge⟩ s n x2 y2 d2 sp2
                rw [hE] at hd2
                have E := Lib.hid hE
                clear hE
                have hrr : (r == r) = true := by simp
                have hgI : Hid (∀ W, Byts W (some ⟨ga, 0, none⟩) (d2 ++ [71, 71, 71]) → Byts W (some ⟨ga, 0, none⟩) d2) := fun W h => by have := h.take d2.length; simpa using this
                have hgI2 : Hid (∀ W, Byts W (some ⟨gs, 0, none⟩) (sp2 ++ [71, 71, 71]) → Byts W (some ⟨gs, 0, none⟩) sp2) := fun W h => by have := h.take sp2.length; simpa using this
                have hgaA : Hid (∀ a, some (⟨ga, 0, none⟩ : Addr) = some a → 0 < (d2 ++ [71, 71, 71]).length → a.block < w0.heap.size ∨ L ≤ a.block) := fun a e _ => by cases e; exact Or.inr hgaL
                have hgsA : Hid (∀ a, some (⟨gs, 0, none⟩ : Addr) = some a → 0 < (sp2 ++ [71, 71, 71]).length → a.block < w0.heap.size ∨ L ≤ a.block) := fun a e _ => by cases e; exact Or.inr hgsL
                have hpbL := hMT.ha.2
                have HP1 : Hid (∀ W, NA W L cb m1 m2 m3 pb sa sz gc gd ge [pb, mb] (40 * i) n s → Byts W (some ⟨ga, 0, none⟩) (d2 ++ [71, 71, 71]) → Byts W (some ⟨gs, 0, none⟩) (sp2 ++ [71, 71, 71]) → Calls Try.prog 12 #[.pointer (some ⟨cb, 0, none⟩), .int .i64 x2, .int .i64 y2, .slice (some ⟨ga, 0, none⟩) d2.length (d2.length + 3), .slice (some ⟨gs, 0, none⟩) sp2.length (sp2.length + 3)] W fun e w' => e = .returned (.int .i64 r) ∧ NA w' L cb m1 m2 m3 pb sa sz gc gd ge [pb, mb] (40 * i + 40) n2 s2 ∧ Only [m1, m2, m3, pb] W w') := fun W hN h1 h2 =>
                  na_program hN hMT hNb x2 y2 hxy.out.1 hxy.out.2 _ _ _ d2 (hgI.out _ h1) rfl (by have := hlens.out; omega) _ _ _ sp2 (hgI2.out _ h2) rfl (by have := hlens.out; omega) (fun a e _ => by cases e; show ga ≠ pb; omega) (fun a e _ => by cases e; show gs ≠ pb; omega) hdb E.out
                have HP2 : Hid (∀ W, NB W rb bb nb kb qb sa sz gc gd ge GP (40 * i) n s → Byts W A16 d2 → Byts W A17 sp2 → Calls Try.prog 31 #[.pointer (some ⟨rb, 0, none⟩), .int .i64 x2, .int .i64 y2, .slice A16 d2.length c16, .slice A17 sp2.length c17] W fun e w' => e = .returned (.int .i64 r) ∧ NB w' rb bb nb kb qb sa sz gc gd ge GP (40 * i + 40) n2 s2 ∧ Only [bb, nb, kb, qb] W w') := fun W hN h1 h2 =>
                  nb_program hN hMT x2 y2 hxy.out.1 hxy.out.2 _ _ _ d2 h1 rfl (by have := hlens.out; omega) _ _ _ sp2 h2 rfl (by have := hlens.out; omega) hA16.out hA17.out hdb E.out
                have HK1 : Hid (∀ W, Byts W (some ⟨ga, 0, none⟩) (d2 ++ [71, 71, 71]) → Byts W A16 d2 → Calls Try.prog 32 #[.slice (some ⟨ga, 0, none⟩) d2.length (d2.length + 3), .slice A16 d2.length c16, .int .u8 71] W fun e w' => e = .returned (.bool true) ∧ ∃ m, w' = W.drewN m) := fun W h1 h2 => kept_byte _ _ _ _ _ _ d2 71 W h1 rfl (Nat.le_refl _) (by have := hlens.out; omega) h2 rfl (by have := hlens.out; omega)
                have HK2 : Hid (∀ W, Byts W (some ⟨gs, 0, none⟩) (sp2 ++ [71, 71, 71]) → Byts W A17 sp2 → Calls Try.prog 32 #[.slice (some ⟨gs, 0, none⟩) sp2.length (sp2.length + 3), .slice A17 sp2.length c17, .int .u8 71] W fun e w' => e = .returned (.bool true) ∧ ∃ m, w' = W.drewN m) := fun W h1 h2 => kept_byte _ _ _ _ _ _ sp2 71 W h1 rfl (Nat.le_refl _) (by have := hlens.out; omega) h2 rfl (by have := hlens.out; omega)
                clear hb5o hya hys hina hin5 hX5 hX5d
                go_region_held3 (fun w' => w'.cell? ⟨bo, 1, none⟩ = some (.int .i64 x2) ∧ w'.cell? ⟨bo, 2, none⟩ = some (.int .i64 y2))
                  (first | (with_reducible exact S0) | (with_reducible exact S1) | (with_reducible exact S2) | (with_reducible exact S3) | (with_reducible exact S4) | (with_reducible exact S5))
                  (first
                    | (go_at_call 12; (with_reducible refine (HP1.out _ hA5 hinad hinsd).mono ?_); rintro e w6 ⟨rfl, hA6, ho6⟩; have hB6 := hB5.off hMT ho6; have hb6 := hb5d.only ho6 hnL; have hG6 := hG5.only ho6 hgL; have hya6 := hMT.bytsA hyad hA16.out ho6; have hys6 := hMT.bytsA hysd hA17.out ho6; have hin6 := hMT.bytsA hinad hgaA.out ho6; have hin6s := hMT.bytsA hinsd hgsA.out ho6; have hbel6 := hMT.fresh hbel5 hbel5.size ho6; have S2 := And.intro (hb6.cell 1 _ rfl) (hb6.cell 2 _ rfl))
                    | (go_at_call 31; (with_reducible refine (HP2.out _ hB6 hya6 hys6).mono ?_); rintro e w7 ⟨rfl, hB7, ho7⟩; have hA7 := hA6.off hMT ho7; have hb7 := hb6.only ho7 hnR; have hG7 := hG6.only ho7 hgR; have hya7 := hMT.bytsB hya6 hA16.out ho7; have hys7 := hMT.bytsB hys6 hA17.out ho7; have hin7 := hMT.bytsB hin6 hgaA.out ho7; have hin7s := hMT.bytsB hin6s hgsA.out ho7; have hbel7 := hMT.freshB hbel6 hbel6.size ho7; have S3 := And.intro (hb7.cell 1 _ rfl) (hb7.cell 2 _ rfl))
                    | (go_at_call 32; (with_reducible refine (HK1.out _ hin7 hya7).mono ?_); rintro e w' ⟨rfl, k8, rfl⟩; have hX8 := below_drewN (Below.refl w7.heap.size w7) k8; have hb8 := hb7.below hX8; have hys8 := hys7.below hX8; have hin8s := hin7s.below hX8; have S4 := And.intro (hb8.cell 1 _ rfl) (hb8.cell 2 _ rfl))
                    | (go_at_call 32; (with_reducible refine (HK2.out _ hin8s hys8).mono ?_); rintro e w' ⟨rfl, k9, rfl⟩; have hX9 := below_drewN (Below.refl w7.heap.size w7) (k8 + k9); have hb9 := hb7.below hX9; have S5 := And.intro (hb9.cell 1 _ rfl) (hb9.cell 2 _ rfl)))
                have HFF := Lib.hid (And.intro ((hA7.below hX9).mono (M := 40 * (i + 1)) (by omega)) (And.intro ((hB7.below hX9).mono (M := 40 * (i + 1)) (by omega)) (And.intro hb9 (And.intro (hG7.below hX9) (hbel7.trans (hX9.mono hbel7.size))))))
                clear S0 S1 S2 S3 S4 S5 hb8 hX8 hb7 hb6 hA6 hA7 hB6 hB7 hG6 hG7 hya6 hys6 hin6 hin6s hya7 hys7 hin7 hin7s hys8 hin8s hbel6 hbel7 hA5 hB5 hG5 hbel5 hb5d hyad hysd hinad hinsd HP1 HP2 HK1 HK2
                go_wp2_with fail
                go_meet
                exact ⟨rfl, n2, s2, x2, y2, HFF.out.1, HFF.out.2.1, by omega, HFF.out.2.2.1, hxy, HFF.out.2.2.2.1, HFF.out.2.2.2.2⟩
        case rest =>
          as_aux_lemma =>
            obtain ⟨rfl, n2, s2, x2, y2, hA2, hB2, hd2, hbo2, hxy, hG2, hbel2⟩ := hcut
            clear hA1 hB1 hG1 hyd1 hys1 hbel1 hbo hdn HWR hXr
            have e1 := hbo2.cell 1 _ rfl
            have e2 := hbo2.cell 2 _ rfl
            obtain ⟨a, ha⟩ : ∃ a, nAsk ⟨sa, sz, gc, gd, ge⟩ x2 y2 = a := ⟨_, rfl⟩
            obtain ⟨D, S, hDS⟩ : ∃ D S, nRead ⟨sa, sz, gc, gd, ge⟩ n2 x2 y2 = (D, S) := ⟨_, _, rfl⟩
            obtain ⟨k1, hk1⟩ : ∃ k, D.length = k := ⟨_, rfl⟩
            obtain ⟨k2, hk2⟩ : ∃ k, S.length = k := ⟨_, rfl⟩
            have HR : Hid (∀ W, NA W L cb m1 m2 m3 pb sa sz gc gd ge [pb, mb] (40 * (i + 1)) n2 s2 → Calls Try.prog 15 #[.pointer (some ⟨cb, 0, none⟩), .int .i64 x2, .int .i64 y2] W fun e w' => ∃ A1 c1 A2 c2, e = .returned (.tuple #[.slice A1 k1 c1, .slice A2 k2 c2, .int .i64 a]) ∧ Byts w' A1 D ∧ Byts w' A2 S ∧ Below W.heap.size W w') := fun W h => na_read h x2 y2 hDS ha hk1 hk2
            have HR2 : Hid (∀ W, NB W rb bb nb kb qb sa sz gc gd ge GP (40 * (i + 1)) n2 s2 → Calls Try.prog 33 #[.pointer (some ⟨rb, 0, none⟩), .int .i64 x2, .int .i64 y2] W fun e w' => ∃ A1 c1 A2 c2, e = .returned (.tuple #[.slice A1 k1 c1, .slice A2 k2 c2, .int .i64 a]) ∧ Byts w' A1 D ∧ Byts w' A2 S ∧ Below W.heap.size W w') := fun W h => nb_read h x2 y2 hDS ha hk1 hk2
            have HK := Lib.hid (And.intro hk1 hk2)
            clear ha hDS hk1 hk2
            go_upto_region 35 with (go_at_call 15; (with_reducible refine (HR.out _ hA2).mono ?_); rintro e w3 ⟨A3, c3, A4, c4, rfl, hy3, hy4, hb3⟩)
            have hA3 := hA2.below hb3
            have hB3 := hB2.below hb3
            have hbo3 := hbo2.below hb3
            have hG3 := hG2.below hb3
            have hbel3 := hbel2.trans (hb3.mono hbel2.size)
            have f1 := hbo3.cell 1 _ rfl
            have f2 := hbo3.cell 2 _ rfl
            clear hA2 hB2 hbo2 hG2 hbel2 hb3 e1 e2
            go_upto_region 36 with (go_at_call 33; (with_reducible refine (HR2.out _ hB3).mono ?_); rintro e w5 ⟨A5, c5, A6, c6, rfl, hy5, hy6, hb5⟩)
            have hA5 := hA3.below hb5
            have hB5 := hB3.below hb5
            have hbo5 := hbo3.below hb5
            have hG5 := hG3.below hb5
            have hbel5 := hbel3.trans (hb5.mono hbel3.size)
            have e1 := hbo5.cell 1 _ rfl
            have hy3' := hy3.below hb5
            have hy4' := hy4.below hb5
            obtain ⟨AR, cR, hrb⟩ := hB5.q.blk
            have q3' := hrb.cell 3 _ rfl
            have H1 : Hid (∀ k, Calls Try.prog 16 #[.slice A3 k1 c3, .slice A5 k1 c5] (w5.drewN k) fun e w' => e = .returned (.bool true) ∧ w5.drewN k = w') := fun k => by
              have h1 := help_bytes A3 k1 c3 D A5 k1 c5 D (w5.drewN k) (hy3'.drewN k) HK.out.1.symm (hy5.drewN k) HK.out.1.symm
              rw [show (D == D) = true by simp] at h1
              exact h1
            have H2 : Hid (∀ k, Calls Try.prog 16 #[.slice A4 k2 c4, .slice A6 k2 c6] (w5.drewN k) fun e w' => e = .returned (.bool true) ∧ w5.drewN k = w') := fun k => by
              have h1 := help_bytes A4 k2 c4 S A6 k2 c6 S (w5.drewN k) (hy4'.drewN k) HK.out.2.symm (hy6.drewN k) HK.out.2.symm
              rw [show (S == S) = true by simp] at h1
              exact h1
            have H3 : Hid (∀ k, Calls Try.prog 14 #[.pointer (some ⟨cb, 0, none⟩), .int .i64 x2] (w5.drewN k) fun e w' => e = .returned (.int .i64 (n2.nx x2)) ∧ w5.drewN k = w') := fun k => nand_programmed (hA5.drewN k).c x2 hxy.out.1
            have H4 : Hid (∀ k, Calls Try.prog 34 #[.pointer (some ⟨rb, 0, none⟩), .int .i64 x2] (w5.drewN k) fun e w' => e = .returned (.int .i64 (n2.nx x2)) ∧ w5.drewN k = w') := fun k => by
              obtain ⟨l, hr⟩ := (hB5.drewN k).r
              exact rnand_programmed hr x2 hxy.out.1
            have H5 : Hid (∀ k, Calls Try.prog 22 #[.pointer (some ⟨cb, 0, none⟩), .int .i64 x2] (w5.drewN k) fun e w' => e = .returned (.int .i64 (n2.er x2)) ∧ w5.drewN k = w') := fun k => nand_erases (hA5.drewN k).c x2 hxy.out.1
            have H6 : Hid (∀ k, Calls Try.prog 35 #[.pointer (some ⟨rb, 0, none⟩), .int .i64 x2] (w5.drewN k) fun e w' => e = .returned (.int .i64 (n2.er x2)) ∧ w5.drewN k = w') := fun k => by
              obtain ⟨l, hr⟩ := (hB5.drewN k).r
              exact rnand_erases hr x2 hxy.out.1
            have H7 : Hid (∀ k, Calls Try.prog 21 #[.pointer (some ⟨pb, 0, none⟩)] (w5.drewN k) fun e w' => e = .returned (.int .i64 (s2.done : Int)) ∧ w5.drewN k = w') := fun k => pow_steps _ _ _ _ (hA5.drewN k).p
            clear hA3 hB3 hbo3 hG3 hbel3 hb5 hy3 hy4 hy5 hy6 hy3' hy4' hrb f1 f2 HR HR2
            generalize hne : n2.nx x2 = cn at *
            generalize hee : n2.er x2 = ce at *
            have hz1 : (a != a) = false := by simp
            have hz2 : (cn != cn) = false := by simp
            have hz3 : (ce != ce) = false := by simp
            have hz4 : ((s2.done : Int) != (s2.done : Int)) = false := by simp
            go_quiet ((first
              | (go_at_call 16; first | exact quiet_left (H1.out _) | exact quiet_left (H2.out _))
              | (go_at_call 14; exact quiet_left (H3.out _))
              | (go_at_call 34; exact quiet_left (H4.out _))
              | (go_at_call 22; exact quiet_left (H5.out _))
              | (go_at_call 35; exact quiet_left (H6.out _))
              | (go_at_call 21; exact quiet_left (H7.out _))))
            clear e1 q3'
            go_wp2_with fail
            go_roundw
            case rel => exact ⟨i + 1, n2, s2, by omega, by omega, by go_num, hA5.drewN nq, hB5.drewN nq, hd2, hG5.below (below_drewN (Below.refl _ _) nq), below_drewN hbel5 nq⟩
            case measure => simp [intOf]; omega
      · obtain rfl : i = 60 := by omega
        go_wp2_with fail
        go_ret
        exact ⟨rfl, hbel⟩
    · obtain rfl : i = ops.length := by omega
      go_wp2_with fail
      go_ret
      exact ⟨rfl, hbel⟩
end Go.Proofs.Ytionjddcahgpkaa
