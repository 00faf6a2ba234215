/- The walk of the law NorPlays. -/
import Derived.Test.YtcdgpioljilgeaaTwin
import Derived.RegionTactic
import Derived.Laws.StructEq
import Derived.Lib.Builder
set_option linter.unusedVariables false
set_option maxRecDepth 100000
set_option linter.unusedSimpArgs false
namespace Go.Proofs.Ytcdgpioljilgeaa
open Go.RowKit

theorem below_drew {W W' : World} (h : Below W.drew.heap.size W.drew W') : Below W.heap.size W W' := ⟨h.os, h.tape, h.output, h.size, h.block⟩

set_option maxHeartbeats 16000000 in
theorem norPlays_walk {w : World} (g0 g1 g2 g3 g4 : Int) (A : Option Addr) (c : Nat) (ops : List OpN) (hcap : ops.length ≤ c ∧ c ≤ maxLen) (h : OpsN w A ops) :
    Calls Try.prog 6 #[.agg #[.int .i64 g0, .int .i64 g1, .int .i64 g2, .int .i64 g3, .int .i64 g4], .slice A ops.length c] w fun e w' => e = .returned (.bool true) ∧ Below w.heap.size w w' := by
  obtain ⟨w0, rfl⟩ : ∃ w0 : World, w0 = w := ⟨_, rfl⟩
  have hl63 : ops.length ≤ 9223372036854775807 := Nat.le_trans hcap.1 hcap.2
  have hs0 : w0.heap.size ≤ w0.heap.size := Nat.le_refl _
  have hbx := Blk.new w0 [.int .i64 g0, .int .i64 g1, .int .i64 g2, .int .i64 g3, .int .i64 g4] 23
  have hbel := below_alloc w0 (.cells [.int .i64 g0, .int .i64 g1, .int .i64 g2, .int .i64 g3, .int .i64 g4].toArray 23 (0, 0))
  have hlt0 := hbx.lt
  obtain ⟨sa, sz, gc, gd, ge, hG, hok, hsa1, hsa2, -, hsz1, hsz2, -⟩ := playG_is ⟨g0, g1, g2, g3, g4⟩
  have HG := Lib.hid (fun W => play_geometry_as g0 g1 g2 g3 g4 W hG)
  clear hG
  have b0 := hbx.cell 0 _ rfl
  have b1 := hbx.cell 1 _ rfl
  have b2 := hbx.cell 2 _ rfl
  have b3 := hbx.cell 3 _ rfl
  have b4 := hbx.cell 4 _ rfl
  go_enter Try.func6, Try.ntmps6
  go_upto_region 2 with (go_at_call 16; refine (HG.out _).mono ?_; rintro e w1 ⟨rfl, hb1⟩; have hz1 := hbx.below hb1; have e0 := hz1.cell 0 _ rfl; have e1 := hz1.cell 1 _ rfl; have e2 := hz1.cell 2 _ rfl; have e3 := hz1.cell 3 _ rfl; have e4 := hz1.cell 4 _ rfl; have f0 := hz1.frz 0; have f1 := hz1.frz 1; have f2 := hz1.frz 2; have f3 := hz1.frz 3; have f4 := hz1.frz 4; have hs1 := hb1.size)
  have hq := box_turned hz1 (u0 := .int .i64 (sa : Int)) (u1 := .int .i64 (sz : Int)) (u2 := .int .i64 (gc : Int)) (u3 := .int .i64 (gd : Int)) (u4 := .int .i64 (ge : Int))
  have hbq := box_below (hbel.trans (hb1.mono hbel.size)) hs0 (u0 := .int .i64 (sa : Int)) (u1 := .int .i64 (sz : Int)) (u2 := .int .i64 (gc : Int)) (u3 := .int .i64 (gd : Int)) (u4 := .int .i64 (ge : Int))
  clear hz1 e0 e1 e2 e3 e4 f0 f1 f2 f3 f4 b0 b1 b2 b3 b4 hbx hb1 hbel hs1 hlt0
  generalize (((((w1.setCell ⟨w0.heap.size, 0, none⟩ (.int .i64 (sa : Int))).setCell ⟨w0.heap.size, 1, none⟩ (.int .i64 (sz : Int))).setCell ⟨w0.heap.size, 2, none⟩ (.int .i64 (gc : Int))).setCell ⟨w0.heap.size, 3, none⟩ (.int .i64 (gd : Int))).setCell ⟨w0.heap.size, 4, none⟩ (.int .i64 (ge : Int))) = w3 at *
  have hs3 := hq.lt
  have HQ := Lib.hid (fun (W : World) (h : Blk W w0.heap.size 23 [.int .i64 (sa : Int), .int .i64 (sz : Int), .int .i64 (gc : Int), .int .i64 (gd : Int), .int .i64 (ge : Int)]) =>
    (And.intro (h.cell 0 _ rfl) (And.intro (h.cell 1 _ rfl) (And.intro (h.cell 2 _ rfl) (And.intro (h.cell 3 _ rfl) (h.cell 4 _ rfl)))) : W.cell? ⟨w0.heap.size, 0, none⟩ = some (.int .i64 (sa : Int)) ∧ W.cell? ⟨w0.heap.size, 1, none⟩ = some (.int .i64 (sz : Int)) ∧ W.cell? ⟨w0.heap.size, 2, none⟩ = some (.int .i64 (gc : Int)) ∧ W.cell? ⟨w0.heap.size, 3, none⟩ = some (.int .i64 (gd : Int)) ∧ W.cell? ⟨w0.heap.size, 4, none⟩ = some (.int .i64 (ge : Int))))
  go_upto_region 3 with (first
    | (go_at_call 18; refine (pow_new _).mono ?_; rintro e w4 ⟨v, rfl, pb, rfl, hpg, hpl, hp4, hb4⟩)
    | (go_at_call 32; refine (rpow_new _).mono ?_; rintro e w5 ⟨v, rfl, qb, rfl, hqg, hql, hp5, hb5⟩))
  have hq5 := (hq.below hb4).below hb5
  have hp45 := hp4.below hb5
  have z4 := hb4.size
  have hb50 := (hbq.trans (hb4.mono (by omega))).trans (hb5.mono (by omega))
  have z5 := hb50.size
  have z5b := hq5.lt
  clear hq hbq hp4 hb4 hb5
  obtain ⟨b0, b1, b2, b3, b4⟩ := HQ.out _ hq5
  go_upto_region 4 with (go_at_call 17; refine (rig_new2 (B := w0.heap.size + 1) (g := ⟨sa, sz, gc, gd, ge⟩) hp45 (by omega) (by omega) hok).mono ?_; rintro e w6 ⟨cb, bb, mb, rfl, hR, hb6, hcg, hbg, hmg⟩)
  have hq6 := hq5.below hb6
  have hp6 := hp5.below hb6
  have hb60 := hb50.trans (hb6.mono z5)
  have z6 := hb6.size
  clear hq5 hp45 hp5 hb6 hb50 b0 b1 b2 b3 b4
  obtain ⟨b0, b1, b2, b3, b4⟩ := HQ.out _ hq6
  go_upto_region 5 with (go_at_call 33; refine (rrig_new (B := w0.heap.size + 1) (g := ⟨sa, sz, gc, gd, ge⟩) hp6 (by omega) (by omega) hok).mono ?_; rintro e w7 ⟨rb, rl, kb, rfl, hS, hb7, hrg, hrlg, hkg⟩)
  have hq7 := hq6.below hb7
  have hR7 := hR.below hb7
  have hb70 := hb60.trans (hb7.mono (by omega))
  have z7 := hb70.size
  have hap : Apart cb bb mb pb rb rl kb qb := by
    intro x hx hx2
    have h1 := hR.c.lt cb (by simp)
    have h2 := hR.c.lt bb (by simp)
    have h3 := hR.c.lt mb (by simp)
    have h4 := hR.lt
    simp at hx hx2
    omega
  clear hq6 hR hb60 hb7 hcg hbg hmg hrg hrlg hkg b0 b1 b2 b3 b4
  obtain ⟨jp, hjp⟩ := Option.isSome_iff_exists.1 (show (Try.prog.info? 95).isSome = true by kernel_rfl)
  have hnp := fun W => Lib.run_neq_ptr_same (P := Try.prog) W ⟨pb, 0, none⟩ Try.underlying31 hjp
  clear hjp jp
  have HGE : Hid (∀ W, Chip W cb bb mb (some ⟨pb, 0, none⟩) ⟨sa, sz, gc, gd, ge⟩ (ffs ((Geo.mk sa sz gc gd ge).a * (Geo.mk sa sz gc gd ge).b).toNat) 0 (fun _ => 0) →
      Calls Try.prog 31 #[.pointer (some ⟨cb, 0, none⟩)] W fun e w' => e = .returned (.agg #[.int .i64 (sa : Int), .int .i64 (sz : Int), .int .i64 (gc : Int), .int .i64 (gd : Int), .int .i64 (ge : Int)]) ∧ Below W.heap.size W w') := fun W hC => nor_geometry hC
  go_region_held3 (fun w' => w'.cell? ⟨w0.heap.size, 0, none⟩ = some (.int .i64 (sa : Int)) ∧ w'.cell? ⟨w0.heap.size, 1, none⟩ = some (.int .i64 (sz : Int)) ∧ w'.cell? ⟨w0.heap.size, 2, none⟩ = some (.int .i64 (gc : Int)) ∧ w'.cell? ⟨w0.heap.size, 3, none⟩ = some (.int .i64 (gd : Int)) ∧ w'.cell? ⟨w0.heap.size, 4, none⟩ = some (.int .i64 (ge : Int)))
    (first | (with_reducible exact HQ.out _ hq7) | (with_reducible exact HQ.out _ hq7.drew) | (with_reducible exact HQ.out _ hq8) | (with_reducible exact HQ.out _ hq9))
    (first
      | (go_at_call 15; refine (awake04 _).mono ?_; rintro e w8 ⟨rfl, hb8⟩; have hq8 := hq7.drew.below hb8; have hR8 := hR7.below (w' := w8) (below_drew hb8); have hS8 := hS.below (w' := w8) (below_drew hb8); have hb80 := hb70.trans ((below_drew hb8).mono z7); clear hq7 hR7 hS hb70)
      | (go_at_call 31; refine (HGE.out _ hR8.c).mono ?_; rintro e w9 ⟨rfl, hb9⟩; have hq9 := hq8.below hb9; have hR9 := hR8.below hb9; have hS9 := hS8.below hb9; have hb90 := hb80.trans (hb9.mono hb80.size); clear hq8 hR8 hS8 hb80 hb9)
      | (go_at_call 30; refine (nor_power hR9.c).mono ?_; rintro e w' ⟨rfl, rfl⟩))
  have z9 := hb90.size
  have hgs : (ffs ((Geo.mk sa sz gc gd ge).a * (Geo.mk sa sz gc gd ge).b).toNat) = ffs ((Geo.mk sa sz gc gd ge).a * (Geo.mk sa sz gc gd ge).b).toNat := rfl
  clear HGE hnp hq9 HQ HG hsa1 hsa2 hsz1 hsz2 hgs hpg hpl hp6 hqg hql z4 z5 z5b z6 z7 hs3
  generalize (Geo.mk sa sz gc gd ge) = G at *
  go_upto_region 8 with fail
  go_loopw [11] (fun v11 wr => ∃ (i : Nat) (l : List UInt8) (N : Nat) (cnt : Int → Int) (s : PS), i ≤ ops.length ∧ i ≤ 60 ∧ v11 = .int .i64 (i : Int) ∧ Rig (w0.heap.size + 1) wr cb bb mb pb [pb] G l N cnt s ∧ RRig (w0.heap.size + 1) wr rb rl kb qb G l N cnt s ∧ Hid (CntIn G cnt) ∧ N ≤ i ∧ s.done ≤ 300 * i ∧ Below w0.heap.size w0 wr) (fun v11 _ => 60 - (intOf v11).toNat)
  case atStart => exact ⟨0, _, 0, fun _ => 0, PS.new, Nat.zero_le _, by decide, rfl, hR9, hS9, fun _ _ => rfl, Nat.le_refl _, by decide, hb90⟩
  case round =>
    clear hR9 hS9 hb90
    obtain ⟨i, l, N, cnt, s, hi, hi60, rfl, hR, hS, HCN, hN, hdn, hbel⟩ := hrel
    by_cases hlt : i < ops.length
    · by_cases hlt2 : i < 60
      · rcases h with rfl | ⟨b, off, rfl, hc⟩
        · simp at hlt
        obtain ⟨AL, cl, ho0, hi0, hcap1, hatb, hnb⟩ := hc i hlt
        have ho : ∀ j u, [Value.int .i64 ops[i].kind, .int .i64 ops[i].at', .int .i64 ops[i].n, .int .u8 (ops[i].mask.toNat : Int), .slice AL ops[i].l.length cl][j]? = some u → wr.cell? ⟨b, off + i * 5 + j, none⟩ = some u :=
          fun j u hu => (hbel.cell (World.block_lt_of_cell? w0 _ (ho0 j u hu))).trans (ho0 j u hu)
        clear ho0
        generalize ops[i] = o at *
        rcases o with ⟨kind, x, n, mask, bs⟩
        have x0 : wr.cell? ⟨b, off + i * 5, none⟩ = some (.int .i64 kind) := ho 0 _ rfl
        have x1 : wr.cell? ⟨b, off + i * 5 + 1, none⟩ = some (.int .i64 x) := ho 1 _ rfl
        have x2 : wr.cell? ⟨b, off + i * 5 + 2, none⟩ = some (.int .i64 n) := ho 2 _ rfl
        have x3 : wr.cell? ⟨b, off + i * 5 + 3, none⟩ = some (.int .u8 (mask.toNat : Int)) := ho 3 _ rfl
        have x4 : wr.cell? ⟨b, off + i * 5 + 4, none⟩ = some (.slice AL bs.length cl) := ho 4 _ rfl
        simp only at hi0 hcap1 hatb hnb
        clear hc ho
        have hby := hi0.below hbel
        have hob : 0 < bs.length → ∀ y, AL = some y → y.block < w0.heap.size := fun h0 y e => hi0.lt h0 y e
        clear hi0
        go_upto_block 2 with fail
        have hbo := Blk.new wr [.int .i64 kind, .int .i64 x, .int .i64 n, .int .u8 (mask.toNat : Int), .slice AL bs.length cl] 54
        have hbx := below_alloc wr (.cells [.int .i64 kind, .int .i64 x, .int .i64 n, .int .u8 (mask.toNat : Int), .slice AL bs.length cl].toArray 54 (0, 0))
        have hbs : wr.heap.size < (wr.alloc (.cells [.int .i64 kind, .int .i64 x, .int .i64 n, .int .u8 (mask.toNat : Int), .slice AL bs.length cl].toArray 54 (0, 0))).heap.size := by simp
        generalize wr.alloc (.cells [.int .i64 kind, .int .i64 x, .int .i64 n, .int .u8 (mask.toNat : Int), .slice AL bs.length cl].toArray 54 (0, 0)) = w1 at *
        have hR1 := hR.below hbx
        have hS1 := hS.below hbx
        have hby1 := hby.below hbx
        have hbel1 := hbel.trans (hbx.mono hbel.size)
        have hoR : ∀ y ∈ [cb, bb, mb, pb], y < wr.heap.size := fun y hy => by
          have h1 := hR.c.lt
          have h2 := hR.lt
          simp at hy
          rcases hy with rfl | rfl | rfl | rfl
          · exact h1 _ (by simp)
          · exact h1 _ (by simp)
          · exact h1 _ (by simp)
          · exact h2.2
        have hoS : ∀ y ∈ [rb, rl, kb, qb], y < wr.heap.size := fun y hy => by
          have h1 := hS.lt
          simp at hy
          omega
        have hbo0 : w0.heap.size ≤ wr.heap.size := hbel.size
        clear hR hS hby hbel hbx x0 x1 x2 x3 x4
        generalize wr.heap.size = bo at *
        go_cut [13] (fun v13 w' => v13 = .bool true ∧ ∃ (l' : List UInt8) (N' : Nat) (cnt' : Int → Int) (s' : PS), Rig (w0.heap.size + 1) w' cb bb mb pb [pb] G l' N' cnt' s' ∧ RRig (w0.heap.size + 1) w' rb rl kb qb G l' N' cnt' s' ∧ Hid (CntIn G cnt') ∧ N' ≤ i + 1 ∧ s'.done ≤ 300 * (i + 1) ∧ Blk w' bo 54 [.int .i64 kind, .int .i64 x, .int .i64 n, .int .u8 (mask.toNat : Int), .slice AL bs.length cl] ∧ Below w0.heap.size w0 w')
        case first =>
          have hs1 := hbel1.size
          have c0 := hbo.cell 0 _ rfl
          have c1 := hbo.cell 1 _ rfl
          have c2 := hbo.cell 2 _ rfl
          have c3 := hbo.cell 3 _ rfl
          have c4 := hbo.cell 4 _ rfl
          have hnL : bo ∉ [bb, mb, pb] := fun hm => by have := hoR bo (by simp at hm ⊢; omega); omega
          have hnR : bo ∉ [rl, kb, qb] := fun hm => by have := hoS bo (by simp at hm ⊢; omega); omega
          by_cases hk1 : kind = 1
          · as_aux_lemma =>
              have HK1 := Lib.hid hk1
              subst hk1
              obtain ⟨r, l2, s2, cnt2, hE⟩ : ∃ r l2 s2 cnt2, eraseE G s l cnt x = (r, l2, s2, cnt2) := ⟨_, _, _, _, rfl⟩
              have hd2 := PS.eraseE_done G s l cnt x
              have hc2 := HCN.out.erase (s := s) (l := l) x
              rw [hE] at hd2 hc2
              have E := Lib.hid hE
              have HC2 := Lib.hid hc2
              clear hE hc2
              have hrr : (r == r) = true := by simp
              have hNb : N ≤ 1000000000 := by omega
              have hdb : s.done ≤ 1000000000000 := by omega
              go_upto_region 23 with fail
              go_region_held3 (fun w' => w'.cell? ⟨bo, 1, none⟩ = some (.int .i64 x))
                (first | (with_reducible exact c1) | (with_reducible exact hbo.drew.cell 1 _ rfl) | (with_reducible exact d1) | (with_reducible exact e1))
                (first
                  | (go_at_call 21; refine (rig_erase (hR1.below (below_drewN (Below.refl _ _) 1)) hNb x hatb hdb E.out).mono ?_; rintro e w2 ⟨rfl, hR2, ho2⟩; have hbo2 := hbo.drew.only ho2 hnL; have d1 := hbo2.cell 1 _ rfl; have hS2 := (hS1.below (below_drewN (Below.refl _ _) 1)).offL hap ho2)
                  | (go_at_call 34; refine (rrig_erase hS2 hNb x hatb hdb E.out).mono ?_; rintro e w3 ⟨rfl, hS3, ho3⟩; have hbo3 := hbo2.only ho3 hnR; have e1 := hbo3.cell 1 _ rfl; have hR3 := hR2.offR hap ho3))
              go_wp2_with fail
              go_meet
              exact ⟨rfl, l2, N + 1, cnt2, s2, hR3, hS3, HC2.out, by omega, by omega, hbo3, hS2.fresh (Nat.le_succ _) (hR1.fresh (Nat.le_succ _) hbel1 hs0 (by have h9 := (Only.refl [bb, mb, pb] w1).drew.trans ho2; exact h9)) hs0 ho3⟩
          have hk1' : (kind == 1) = false := beq_eq_false_iff_ne.2 hk1
          clear hk1
          by_cases hk2 : kind = 2
          · as_aux_lemma =>
              subst hk2
              clear hk1'
              obtain ⟨AR, cR, hrb⟩ := hS1.p.blk
              have r0 := hrb.cell 0 _ rfl
              clear hrb
              cases hoff : s.off with
              | true =>
                rw [hoff] at r0
                clear hoff
                go_wp2_with fail
                go_meet
                exact ⟨rfl, l, N, cnt, s, hR1, hS1, HCN.out, by omega, by omega, hbo, hbel1⟩
              | false =>
                rw [hoff] at r0
                clear hoff
                go_upto_region 27 with (go_at_call 25; refine (rig_cut hR1 n mask hnb.2).mono ?_; rintro e w2 ⟨rfl, hR2, ho2⟩)
                have ho2' := ho2.mono (S' := [bb, mb, pb]) (by simp)
                have hS2 := hS1.offL hap ho2'
                have hbo2 := hbo.only ho2' hnL
                have d2 := hbo2.cell 2 _ rfl
                have d3 := hbo2.cell 3 _ rfl
                have hb2 := hR1.fresh (Nat.le_succ _) hbel1 hs0 ho2'
                clear r0 ho2 hR1 hS1 hbo hbel1 c0 c1 c2 c3 c4
                go_wp2_with (go_at_call 35; refine (rrig_cut hS2 n mask hnb.2).mono ?_; rintro e w3 ⟨rfl, hS3, ho3⟩)
                go_meet
                exact ⟨rfl, l, N, cnt, _, hR2.offR hap ho3, hS3, HCN.out, by omega, by show s.done ≤ _; omega, hbo2.only ho3 hnR, hS2.fresh (Nat.le_succ _) hb2 hs0 ho3⟩
          have hk2' : (kind == 2) = false := beq_eq_false_iff_ne.2 hk2
          clear hk2
          by_cases hk3 : kind = 3
          · as_aux_lemma =>
              subst hk3
              clear hk1' hk2'
              go_upto_region 30 with (go_at_call 26; refine (rig_on hR1).mono ?_; rintro e w2 ⟨rfl, hR2, ho2⟩)
              have ho2' := ho2.mono (S' := [bb, mb, pb]) (by simp)
              have hS2 := hS1.offL hap ho2'
              have hbo2 := hbo.only ho2' hnL
              have hb2 := hR1.fresh (Nat.le_succ _) hbel1 hs0 ho2'
              clear ho2 hR1 hS1 hbo hbel1 c0 c1 c2 c3 c4
              go_wp2_with (go_at_call 36; refine (rrig_on hS2).mono ?_; rintro e w3 ⟨rfl, hS3, ho3⟩)
              go_meet
              exact ⟨rfl, l, N, cnt, _, hR2.offR hap ho3, hS3, HCN.out, by omega, by show s.done ≤ _; omega, hbo2.only ho3 hnR, hS2.fresh (Nat.le_succ _) hb2 hs0 ho3⟩
          have hk3' : (kind == 3) = false := beq_eq_false_iff_ne.2 hk3
          clear hk3
          by_cases h300 : 300 < bs.length
          · go_wp2_with fail
            go_ret
            exact ⟨rfl, hbel1⟩
          have hs1r := Nat.le_refl w1.heap.size
          go_upto_region 17 with (at_builtin; refine wpList_wanted (by rfl) fun K hK => wp_clone_byts _ rfl rfl hby1 rfl (by omega) hs1r ?_; intro r w2 hown hb2 hown2; refine hK _ _ ?_; clear hK K)
          obtain ⟨A14, c14, rfl, hc14, -, hA14⟩ := hown.byts
          have hbo1 := hbo.lt
          clear c0 c1 c2 c3 c4 hown2
          go_loopw [15] (fun v15 wx => ∃ (k : Nat) (xs : List UInt8), k ≤ bs.length ∧ v15 = .int .i64 (k : Int) ∧ Hid (xs.length = bs.length) ∧ Own wx w1.heap.size (.slice A14 bs.length c14) xs ∧ Below w1.heap.size w1 wx) (fun v15 _ => bs.length - (intOf v15).toNat)
          case atStart => exact ⟨0, bs, Nat.zero_le _, rfl, rfl, hown, hb2⟩
          case round =>
            clear hown hb2
            obtain ⟨k, xs, hk, rfl, HX, hown, hb2⟩ := hrel
            have hb2d := hb2
            have hRx := hR1.below hb2
            have hSx := hS1.below hb2
            have hbox := hbo.below hb2
            have hbelx := hbel1.trans (hb2.mono hs1)
            have d0 := hbox.cell 0 _ rfl
            have d1 := hbox.cell 1 _ rfl
            have r6 := hSx.c.blk.cell 6 _ rfl
            have hsz := hSx.c.size
            obtain ⟨L, hL⟩ : ∃ L, l.length = L := ⟨_, rfl⟩
            rw [hL] at r6 hsz
            have HL := Lib.hid hL
            have hNN := Lib.hid (And.intro hRx (And.intro hSx (And.intro hbox hbelx)))
            clear hL hRx hSx hbox hbelx
            by_cases hgo : k < bs.length ∧ kind = 4 ∧ 0 ≤ x ∧ x < (L : Int) - (bs.length : Int)
            · as_aux_lemma =>
                obtain ⟨hkl, hk4, hx0, hxL⟩ := hgo
                subst hk4
                clear hk1' hk2' hk3'
                obtain ⟨xo, rfl⟩ : ∃ xo : Nat, x = (xo : Int) := ⟨x.toNat, by omega⟩
                have hwL : IntKind.i64.wrap ((L : Int) - (bs.length : Int)) = (L : Int) - (bs.length : Int) := IntWalk.i64_in _ (by omega)
                have hwk : IntKind.i64.wrap ((xo : Int) + (k : Int)) = ((xo + k : Nat) : Int) := by rw [← Int.natCast_add]; exact IntWalk.i64_in _ (by omega)
                have hkx : k < xs.length := by have := HX.out; omega
                obtain ⟨g, c2, e, hc2, hg1, hg2, hcell, hfrz⟩ := hown.form (by omega)
                simp only [Value.slice.injEq] at e
                obtain ⟨rfl, -, rfl⟩ := e
                have hci := hcell k hkx
                have hf := hfrz k
                have hxk : xo + k < l.length := by have := HL.out; omega
                have hcl := hNN.out.2.1.c.mem.get hxk
                have hand := and_u8 xs[k] l[xo + k]
                have hset := hown.set k (xs[k] &&& l[xo + k])
                have HXL := Lib.hid (show (xs.set k (xs[k] &&& l[xo + k])).length = bs.length by rw [List.length_set]; exact HX.out)
                have hbel2 := hb2.setCell (p := ⟨g, k, none⟩) hg1 (.int .u8 ((xs[k] &&& l[xo + k]).toNat : Int))
                have HB2 := Lib.hid (And.intro hset hbel2)
                have q0 : (0 : Int) ≤ (k : Int) := by omega
                have q1 : (k : Int) < (bs.length : Int) := by omega
                have q2 : (0 : Int) ≤ ((xo + k : Nat) : Int) := by omega
                have q3 : ((xo + k : Nat) : Int) < (L : Int) := by have := HL.out; omega
                clear hset hbel2 hcell hfrz hown hb2 hb2d HX
                generalize xs.set k (xs[k] &&& l[xo + k]) = xs2 at *
                generalize (xs[k] &&& l[xo + k]) = vv at *
                generalize xs[k] = xi at *
                generalize l[xo + k] = yi at *
                go_upto_region 17 with fail
                go_quiet (fail)
                go_upto_region 19 with fail
                go_region
                clear hci hcl hf hand q0 q1 q2 q3 hwL hwk d0 d1 r6
                go_wp2_with fail
                go_roundw
                case rel => exact ⟨k + 1, xs2, by omega, by go_num, HXL.out, HB2.out.1.below (below_drewN (Below.refl _ _) _), below_drewN HB2.out.2 _⟩
                case measure => simp [intOf]; omega
            · obtain ⟨r, l2, s2, hE⟩ : ∃ r l2 s2, progE s l x xs = (r, l2, s2) := ⟨_, _, _, rfl⟩
              have hd2 := PS.progE_done s l x xs
              rw [hE] at hd2
              simp only at hd2
              have E := Lib.hid hE
              have hxsl : xs.length ≤ 300 := by have := HX.out; omega
              have hbyx := hown.read
              have hrr : (r == r) = true := by simp
              have hcase : k = bs.length ∨ (k < bs.length ∧ (kind == 4) = false) ∨ (k < bs.length ∧ kind = 4 ∧ x < 0 ∧ decide (0 ≤ x) = false) ∨ (k < bs.length ∧ kind = 4 ∧ 0 ≤ x ∧ (L : Int) - (bs.length : Int) ≤ x ∧ decide (x < (L : Int) - (bs.length : Int)) = false) := by
                by_cases a : k < bs.length
                · by_cases b : kind = 4
                  · by_cases c : x < 0
                    · exact Or.inr (Or.inr (Or.inl ⟨a, b, c, by simp; omega⟩))
                    · by_cases d : x < (L : Int) - (bs.length : Int)
                      · exact (hgo ⟨a, b, by omega, d⟩).elim
                      · exact Or.inr (Or.inr (Or.inr ⟨a, b, by omega, by omega, decide_eq_false d⟩))
                  · exact Or.inr (Or.inl ⟨a, beq_eq_false_iff_ne.2 b⟩)
                · left; omega
              have hwL : IntKind.i64.wrap ((L : Int) - (bs.length : Int)) = (L : Int) - (bs.length : Int) := IntWalk.i64_in _ (by omega)
              clear hgo hE hown
              rcases hcase with rfl | ⟨hkl, hk4⟩ | ⟨hkl, rfl, hx0, hx0d⟩ | ⟨hkl, rfl, hx0, hxL, hxLd⟩
              all_goals
                as_aux_lemma =>
                  have HB2d := Lib.hid hb2d
                  clear hb2d
                  go_upto_region 17 with fail
                  go_quiet (fail)
                  have hR3 := hNN.out.1.drewN nq
                  have hS3 := hNN.out.2.1.drewN nq
                  have hbo3 := hNN.out.2.2.1.drewN nq
                  have hbel3 := below_drewN hNN.out.2.2.2 nq
                  have hbyx3 := hbyx.drewN nq
                  have hz3 : w1.heap.size ≤ (wr.drewN nq).heap.size := HB2d.out.size
                  clear hNN hbyx HB2d d0 d1 r6 hwL hb2
                  generalize wr.drewN nq = w3 at *
                  go_upto_region 21 with (go_at_call 37; refine (own_byte _ _ _ xs 71 _ hbyx3 HX.out.symm (by omega)).mono ?_; rintro e w4 ⟨v4, rfl, g4, rfl, hin4, hb4, hg4⟩)
                  have hdr : Below w4.heap.size w4 w4.drew := (Below.refl _ _).drew
                  have hR4 := (hR3.below hb4).below hdr
                  have hS4 := (hS3.below hb4).below hdr
                  have hbo4 := hbo3.below hb4
                  have hbel4 := (hbel3.trans (hb4.mono hbel3.size)).drew
                  have hbyx4 := (hbyx3.below hb4).below hdr
                  have hin4d := hin4.below hdr
                  have hint : Byts w4.drew (some ⟨g4, 0, none⟩) xs := by have := hin4d.take xs.length; simpa using this
                  have d1 := hbo4.cell 1 _ rfl
                  have e1 := hbo4.drew.cell 1 _ rfl
                  have hAp : 0 < xs.length → ∀ y, (some ⟨g4, 0, none⟩ : Option Addr) = some y → y.block ≠ bb ∧ y.block ≠ pb := fun _ y e => by
                    cases e
                    have h1 := hoR bb (by simp)
                    have h2 := hoR pb (by simp)
                    simp
                    omega
                  have hAq : 0 < xs.length → ∀ y, A14 = some y → y.block ≠ rl ∧ y.block ≠ qb := fun _ y e => by
                    have h1 := hoS rl (by simp)
                    have h2 := hoS qb (by simp)
                    have h3 := (hA14 y e).1
                    omega
                  have HAp := Lib.hid hAp
                  have HAq := Lib.hid hAq
                  have HA14 := Lib.hid hA14
                  have hdn1 : s.done + xs.length ≤ 1000000000000 := by omega
                  clear hR3 hS3 hbo3 hbel3 hbyx3 hb4 hin4 hAp hAq hA14
                  go_region_held3 (fun w' => w'.cell? ⟨bo, 1, none⟩ = some (.int .i64 x))
                    (first | (with_reducible exact d1) | (with_reducible exact e1) | (with_reducible exact f1) | (with_reducible exact g1') | (with_reducible exact g2'))
                    (first
                      | (go_at_call 19; refine (rig_program hR4 x hatb _ _ _ xs hint rfl (by omega) HAp.out hdn1 E.out).mono ?_; rintro e w5 ⟨rfl, hR5, ho5⟩; have ho5' := ho5.mono (S' := [bb, mb, pb]) (by simp); have hS5 := hS4.offL hap ho5'; have hbo5 := hbo4.drew.only ho5' hnL; have f1 := hbo5.cell 1 _ rfl; have hb5 := hR4.fresh (Nat.le_succ _) hbel4 hs0 ho5'; have hbyx5 := hbyx4.only ho5' (fun y e _ hm => by have h1 := hoR y.block (by simp at hm ⊢; omega); have h3 := (HA14.out y e).1; omega); have hin5 := hin4d.only ho5' (fun y e _ hm => by cases e; have h1 := hoR g4 (by simp at hm ⊢; omega); omega); clear hR4 hS4 hbo4 hbel4 hbyx4 hin4d hint ho5)
                      | (go_at_call 38; refine (rrig_program hS5 x hatb _ _ _ xs hbyx5 HX.out.symm (by omega) HAq.out hdn1 E.out).mono ?_; rintro e w6 ⟨rfl, hS6, ho6⟩; have hR6 := hR5.offR hap ho6; have hbo6 := hbo5.only ho6 hnR; have g1' := hbo6.cell 1 _ rfl; have hb6 := hS5.fresh (Nat.le_succ _) hb5 hs0 ho6; have hbyx6 := hbyx5.only ho6 (fun y e _ hm => by have h1 := hoS y.block (by simp at hm ⊢; omega); have h3 := (HA14.out y e).1; omega); have hin6 := hin5.only ho6 (fun y e _ hm => by cases e; have h1 := hoS g4 (by simp at hm ⊢; omega); omega); clear hR5 hS5 hbo5 hb5 hbyx5 hin5 ho6)
                      | (go_at_call 39; refine (kept_byte _ _ _ _ _ _ xs 71 _ hin6 rfl (Nat.le_refl _) (by omega) hbyx6 HX.out.symm (by omega)).mono ?_; rintro e w7 ⟨rfl, m7, rfl⟩; have hR7 := hR6.drewN m7; have hS7 := hS6.drewN m7; have hbo7 := hbo6.drewN m7; have g2' := hbo7.cell 1 _ rfl; have hb7 := below_drewN hb6 m7))
                  go_wp2_with fail
                  go_meet
                  exact ⟨rfl, l2, N, cnt, s2, hR7, hS7, HCN.out, by omega, by omega, hbo7, hb7⟩
        case rest =>
          as_aux_lemma =>
            obtain ⟨rfl, l', N', cnt', s', hR2, hS2, HC2, hN2, hd2, hbo2, hbel2⟩ := hcut
            clear hR1 hS1 hby1 hbel1 hbo HCN hdn hN
            obtain ⟨L, hL⟩ : ∃ L, l'.length = L := ⟨_, rfl⟩
            have hsz := hS2.c.size
            have r6 : wc.cell? ⟨rb, 6, none⟩ = some (.slice (some ⟨rl, 0, none⟩) L L) := by rw [← hL]; exact hS2.c.blk.cell 6 _ rfl
            rw [hL] at hsz
            have HL := Lib.hid hL
            have R1 := Lib.hid (readL_zero l' L (by omega))
            have HT := Lib.hid (show l'.take L = l' by rw [← hL, List.take_length])
            clear hL
            obtain ⟨m, hm⟩ : ∃ m, readL l' x n = m := ⟨_, rfl⟩
            obtain ⟨r, hr⟩ : ∃ r, askE l'.length x n = r := ⟨_, rfl⟩
            obtain ⟨ml, hml⟩ : ∃ ml, m.length = ml := ⟨_, rfl⟩
            have HM := Lib.hid hm
            have HR := Lib.hid hr
            have HML := Lib.hid hml
            clear hm hr hml
            go_upto_region 32 with (go_at_call 20; refine (rig_read hR2 0 (L : Int) (by decide) (by omega) R1.out.1 (R1.out.2.trans HT.out) HL.out).mono ?_; rintro e w3 ⟨A17, c17, rfl, hc17, hby17, hA17, hb3⟩)
            have hR3 := hR2.below hb3
            have hS3 := hS2.below hb3
            have hbo3 := hbo2.below hb3
            have hbel3 := hbel2.trans (hb3.mono hbel2.size)
            have c1 := hbo3.cell 1 _ rfl
            have c2 := hbo3.cell 2 _ rfl
            clear hR2 hS2 hbo2 hbel2 hb3 r6
            go_upto_region 33 with (go_at_call 20; refine (rig_read hR3 x n hatb hnb HR.out HM.out HML.out).mono ?_; rintro e w4 ⟨A19, c19, rfl, hc19, hby19, hA19, hb4⟩)
            have hR4 := hR3.below hb4
            have hS4 := hS3.below hb4
            have hbo4 := hbo3.below hb4
            have hby17b := hby17.below hb4
            have hbel4 := hbel3.trans (hb4.mono hbel3.size)
            have d1 := hbo4.cell 1 _ rfl
            have d2 := hbo4.cell 2 _ rfl
            clear hR3 hS3 hbo3 hbel3 hb4 hby17 c1 c2
            go_upto_region 34 with (go_at_call 40; refine (rrig_read hS4 x n hatb hnb HR.out HM.out HML.out).mono ?_; rintro e w5 ⟨A21, c21, rfl, hc21, hby21, hA21, hb5⟩)
            have hR5 := hR4.below hb5
            have hS5 := hS4.below hb5
            have hbo5 := hbo4.below hb5
            have hby17c := hby17b.below hb5
            have hby19c := hby19.below hb5
            have hbel5 := hbel4.trans (hb5.mono hbel4.size)
            have e1 := hbo5.cell 1 _ rfl
            have r6 : w5.cell? ⟨rb, 6, none⟩ = some (.slice (some ⟨rl, 0, none⟩) L L) := by rw [← HL.out]; exact hS5.c.blk.cell 6 _ rfl
            obtain ⟨AR, cR, hrb⟩ := hS5.p.blk
            have q3 := hrb.cell 3 _ rfl
            have H1 : Hid (∀ k, Calls Try.prog 23 #[.slice A17 L c17, .slice (some ⟨rl, 0, none⟩) L L] (w5.drewN k) fun e w' => e = .returned (.bool true) ∧ w5.drewN k = w') := fun k => by
              have h1 := help_bytes A17 L c17 l' (some ⟨rl, 0, none⟩) L L l' (w5.drewN k) (hby17c.drewN k) HL.out.symm (hS5.c.mem.read.drewN k) HL.out.symm
              rw [show (l' == l') = true by simp] at h1
              exact h1
            have H2 : Hid (∀ k, Calls Try.prog 23 #[.slice A19 ml c19, .slice A21 ml c21] (w5.drewN k) fun e w' => e = .returned (.bool true) ∧ w5.drewN k = w') := fun k => by
              have h1 := help_bytes A19 ml c19 m A21 ml c21 m (w5.drewN k) (hby19c.drewN k) HML.out.symm (hby21.drewN k) HML.out.symm
              rw [show (m == m) = true by simp] at h1
              exact h1
            have H3 : Hid (∀ k, Calls Try.prog 22 #[.pointer (some ⟨cb, 0, none⟩), .int .i64 x] (w5.drewN k) fun e w' => e = .returned (.int .i64 (cnt' x)) ∧ w5.drewN k = w') := fun k => nor_erases (hR5.drewN k).c x hatb
            have H4 : Hid (∀ k, Calls Try.prog 41 #[.pointer (some ⟨rb, 0, none⟩), .int .i64 x] (w5.drewN k) fun e w' => e = .returned (.int .i64 (cnt' x)) ∧ w5.drewN k = w') := fun k => by
              have h1 := rnor_erases (hS5.drewN k).c x hatb
              rw [HC2.out.erases] at h1
              exact h1
            have H5 : Hid (∀ k, Calls Try.prog 42 #[.pointer (some ⟨pb, 0, none⟩)] (w5.drewN k) fun e w' => e = .returned (.int .i64 (s'.done : Int)) ∧ w5.drewN k = w') := fun k => pow_steps _ _ _ _ (hR5.drewN k).p
            clear hR4 hS4 hbo4 hbel4 hb5 hby17b hby19 hby17c hby19c hby21 hrb d1 d2
            generalize hce : cnt' x = ce at *
            have hz1 : (r != r) = false := by simp
            have hz2 : (ce != ce) = false := by simp
            have hz3 : ((s'.done : Int) != (s'.done : Int)) = false := by simp
            go_quiet ((first
              | (go_at_call 23; first | exact quiet_left (H1.out _) | exact quiet_left (H2.out _))
              | (go_at_call 22; exact quiet_left (H3.out _))
              | (go_at_call 41; exact quiet_left (H4.out _))
              | (go_at_call 42; exact quiet_left (H5.out _))))
            clear e1 r6 q3
            go_wp2_with fail
            go_roundw
            case rel => exact ⟨i + 1, l', N', cnt', s', by omega, by omega, by go_num, hR5.drewN nq, hS5.drewN nq, HC2.out, hN2, hd2, below_drewN hbel5 nq⟩
            case measure => simp [intOf]; omega
      · obtain rfl : i = 60 := by omega
        go_wp2_with fail
        go_ret
        exact ⟨rfl, hbel⟩
    · obtain rfl : i = ops.length := by omega
      go_wp2_with fail
      go_ret
      exact ⟨rfl, hbel⟩
end Go.Proofs.Ytcdgpioljilgeaa
