/- The walk of the law NorRight. -/
import Derived.Test.YtcdgpioljilgeaaLawNor
import Derived.Test.YtcdgpioljilgeaaRefNor
import Derived.Laws.StructEq
set_option linter.unusedVariables false
set_option maxRecDepth 100000
set_option linter.unusedSimpArgs false
namespace Go.Proofs.Ytcdgpioljilgeaa
open Go.RowKit

section
variable {B : Nat} {w : World} {cb bb mb pb : Nat} {F : List Nat} {g : Geo} {l : List UInt8} {N : Nat} {cnt : Int → Int} {s : PS}
theorem rig_load (h : Rig B w cb bb mb pb F g l N cnt s) (A : Option Addr) (n c : Nat) (bs : List UInt8) (hb : Byts w A bs) (hn : n = bs.length) (hl : bs.length = l.length) :
    Calls Try.prog 27 #[.pointer (some ⟨cb, 0, none⟩), .slice A n c] w fun e w' => e = .returned (.int .i64 0) ∧ Rig B w' cb bb mb pb F g bs N cnt s ∧ Only [bb] w w' :=
  (nor_load h.c A n c bs hb hn hl).mono fun e w1 ⟨he, hc, ho⟩ => ⟨he, ⟨hc, h.p.only ho (fun y hy => by have := h.d y hy; simp at this ⊢; omega), h.d, h.up, h.upF⟩, ho⟩
end

theorem nor_new_any (g : Geo) (w : World) (hg : g.wf) :
    Calls Try.prog 17 #[g.val, .pointer none] w fun e w' => ∃ q, e = .returned (.tuple #[.pointer q, .int .i64 (if g.ok then 0 else 1)]) ∧ Below w.heap.size w w' :=
  (nor_new g none w hg).mono fun e w1 ⟨hb, hr⟩ => by
    rcases hr with ⟨hn, he⟩ | ⟨hn, cb, bb, mb, he, _⟩
    · exact ⟨none, by rw [if_neg hn]; exact he, hb⟩
    · exact ⟨some ⟨cb, 0, none⟩, by rw [if_pos hn]; exact he, hb⟩

theorem below_drew {W W' : World} (h : Below W.drew.heap.size W.drew W') : Below W.heap.size W W' := ⟨h.os, h.tape, h.output, h.size, h.block⟩

set_option maxHeartbeats 8000000 in
theorem norRight_walk {w : World} (g0 : Int) (wg0 : (Lit.int .i64 g0).wf = true) (g1 : Int) (wg1 : (Lit.int .i64 g1).wf = true) (g2 : Int) (wg2 : (Lit.int .i64 g2).wf = true) (g3 : Int) (wg3 : (Lit.int .i64 g3).wf = true) (g4 : Int) (wg4 : (Lit.int .i64 g4).wf = true)
    (A' : Option Addr) (c' : Nat) (b : List UInt8) (hcap' : b.length ≤ c' ∧ c' ≤ maxLen) (hb' : Byts w A' b) (hl' : b.length ≤ 140737488351232) :
    Calls Try.prog 5 #[.agg #[.int .i64 g0, .int .i64 g1, .int .i64 g2, .int .i64 g3, .int .i64 g4], .slice A' b.length c'] w fun e w' => e = .returned (.bool true) ∧ Below w.heap.size w w' := by
  obtain ⟨w0, rfl⟩ : ∃ w0 : World, w0 = w := ⟨_, rfl⟩
  have hgwf : (Geo.mk g0 g1 g2 g3 g4).wf := ⟨wf_i64 wg0, wf_i64 wg1, wf_i64 wg2, wf_i64 wg3, wf_i64 wg4⟩
  clear wg0 wg1 wg2 wg3 wg4
  have hs0 : w0.heap.size ≤ w0.heap.size := Nat.le_refl _
  have hbx := Blk.new w0 [.int .i64 g0, .int .i64 g1, .int .i64 g2, .int .i64 g3, .int .i64 g4] 23
  have hbel := below_alloc w0 (.cells [.int .i64 g0, .int .i64 g1, .int .i64 g2, .int .i64 g3, .int .i64 g4].toArray 23 (0, 0))
  have hlt0 := hbx.lt
  by_cases hb5000 : 5000 < b.length
  · go_enter Try.func5, Try.ntmps5
    go_wp2_with (go_at_call 15; refine (awake04 _).mono ?_; rintro e w2 ⟨rfl, hb2⟩)
    go_ret
    exact ⟨rfl, hbel.trans (hb2.mono hbel.size)⟩
  obtain ⟨sa, sz, gc, gd, ge, hG, hok, hsa1, hsa2, -, hsz1, hsz2, -⟩ := playG_is ⟨g0, g1, g2, g3, g4⟩
  have HG := Lib.hid (fun W => play_geometry_as g0 g1 g2 g3 g4 W hG)
  clear hG
  obtain ⟨er, hD, her, her2⟩ : ∃ er : Int, Hid ((if (Geo.mk g0 g1 g2 g3 g4).ok then 0 else 1 : Int) = er) ∧ ((er == 0) = decide (Geo.mk g0 g1 g2 g3 g4).ok) ∧ (er = 0 ∨ er = 1) := by
    by_cases h : (Geo.mk g0 g1 g2 g3 g4).ok
    · exact ⟨0, if_pos h, by simp [h], Or.inl rfl⟩
    · exact ⟨1, if_neg h, by simp [h], Or.inr rfl⟩
  obtain ⟨dk, hdk⟩ : ∃ dk, decide (Geo.mk g0 g1 g2 g3 g4).ok = dk := ⟨_, rfl⟩
  rw [hdk] at her
  have HDK := Lib.hid hdk
  have HER := Lib.hid her
  clear hdk her her2
  have HNN := Lib.hid (fun W => nor_new_any ⟨g0, g1, g2, g3, g4⟩ W hgwf)
  have HR1 := Lib.hid (fun W => nor_right ⟨g0, g1, g2, g3, g4⟩ W)
  have HR2 := Lib.hid (fun W => ref_right ⟨g0, g1, g2, g3, g4⟩ W)
  have HQ := Lib.hid (fun (W : World) (h : Blk W w0.heap.size 23 [.int .i64 g0, .int .i64 g1, .int .i64 g2, .int .i64 g3, .int .i64 g4]) =>
    (And.intro (h.cell 0 _ rfl) (And.intro (h.cell 1 _ rfl) (And.intro (h.cell 2 _ rfl) (And.intro (h.cell 3 _ rfl) (h.cell 4 _ rfl)))) : W.cell? ⟨w0.heap.size, 0, none⟩ = some (.int .i64 g0) ∧ W.cell? ⟨w0.heap.size, 1, none⟩ = some (.int .i64 g1) ∧ W.cell? ⟨w0.heap.size, 2, none⟩ = some (.int .i64 g2) ∧ W.cell? ⟨w0.heap.size, 3, none⟩ = some (.int .i64 g3) ∧ W.cell? ⟨w0.heap.size, 4, none⟩ = some (.int .i64 g4)))
  obtain ⟨b0, b1, b2, b3, b4⟩ := HQ.out _ hbx
  go_enter Try.func5, Try.ntmps5
  go_upto_region 4 with (go_at_call 17; refine (HNN.out _).mono ?_; rintro e w1 ⟨q, rfl, hb1⟩; rw [hD.out])
  have hq1 := hbx.below hb1
  have hb10 := hbel.trans (hb1.mono hbel.size)
  clear hbx hbel hb1 b0 b1 b2 b3 b4
  obtain ⟨b0, b1, b2, b3, b4⟩ := HQ.out _ hq1
  go_upto_region 5 with (go_at_call 16; refine (HG.out _).mono ?_; rintro e w2 ⟨rfl, hb2⟩)
  have hq2 := hq1.below hb2
  have hb20 := hb10.trans (hb2.mono hb10.size)
  clear hq1 hb10 hb2 b0 b1 b2 b3 b4
  have hy := Blk.new w2 [.int .i64 (sa : Int), .int .i64 (sz : Int), .int .i64 (gc : Int), .int .i64 (gd : Int), .int .i64 (ge : Int)] 23
  have hq3 := hq2.alloc (.cells [.int .i64 (sa : Int), .int .i64 (sz : Int), .int .i64 (gc : Int), .int .i64 (gd : Int), .int .i64 (ge : Int)].toArray 23 (0, 0))
  have hb30 := hb20.alloc hb20.size (.cells [.int .i64 (sa : Int), .int .i64 (sz : Int), .int .i64 (gc : Int), .int .i64 (gd : Int), .int .i64 (ge : Int)].toArray 23 (0, 0))
  have hxl := hq2.lt
  clear hq2 hb20
  generalize w2.alloc (.cells [.int .i64 (sa : Int), .int .i64 (sz : Int), .int .i64 (gc : Int), .int .i64 (gd : Int), .int .i64 (ge : Int)].toArray 23 (0, 0)) = w3 at *
  generalize w2.heap.size = yb at *
  have hyl := hy.lt
  have HQY := Lib.hid (fun (W : World) (h : Blk W yb 23 [.int .i64 (sa : Int), .int .i64 (sz : Int), .int .i64 (gc : Int), .int .i64 (gd : Int), .int .i64 (ge : Int)]) =>
    (And.intro (h.cell 0 _ rfl) (And.intro (h.cell 1 _ rfl) (And.intro (h.cell 2 _ rfl) (And.intro (h.cell 3 _ rfl) (h.cell 4 _ rfl)))) : W.cell? ⟨yb, 0, none⟩ = some (.int .i64 (sa : Int)) ∧ W.cell? ⟨yb, 1, none⟩ = some (.int .i64 (sz : Int)) ∧ W.cell? ⟨yb, 2, none⟩ = some (.int .i64 (gc : Int)) ∧ W.cell? ⟨yb, 3, none⟩ = some (.int .i64 (gd : Int)) ∧ W.cell? ⟨yb, 4, none⟩ = some (.int .i64 (ge : Int))))
  have hd3 : w3.drew.heap.size = w3.heap.size := rfl
  go_region_held3 (fun w' => w'.cell? ⟨yb, 0, none⟩ = some (.int .i64 (sa : Int)) ∧ w'.cell? ⟨yb, 1, none⟩ = some (.int .i64 (sz : Int)) ∧ w'.cell? ⟨yb, 2, none⟩ = some (.int .i64 (gc : Int)) ∧ w'.cell? ⟨yb, 3, none⟩ = some (.int .i64 (gd : Int)) ∧ w'.cell? ⟨yb, 4, none⟩ = some (.int .i64 (ge : Int)))
    (first | (with_reducible exact HQY.out _ hy) | (with_reducible exact HQY.out _ hy.drew) | (with_reducible exact HQY.out _ hy4) | (with_reducible exact HQY.out _ hy5))
    (first
      | (go_at_call 18; refine (pow_new _).mono ?_; rintro e w4 ⟨v, rfl, pb, rfl, hpg, hpl, hp4, hb4⟩; have hy4 := hy.drew.below hb4)
      | (go_at_call 17; refine (rig_new (B := w3.heap.size) (g := ⟨sa, sz, gc, gd, ge⟩) hp4 (by omega) (by have := hb4.size; omega) hok).mono ?_; rintro e w5 ⟨cb, bb, mb, rfl, hR, hb5⟩; have hy5 := hy4.below hb5))
  have hb35 := (hb4.mono (B' := w3.heap.size) (by omega)).trans (hb5.mono (by have := hb4.size; omega))
  have hq5 := (hq3.drew.below hb4).below hb5
  have hb50 := hb30.drew.trans ((hb35.mono hb30.size))
  have z5 := hb50.size
  clear hb4 hb5 hq3 hy hy4 hp4 hpg hpl hd3 hb35
  obtain ⟨L, hL⟩ : ∃ L, sa * sz = L := ⟨_, rfl⟩
  have hL1 : 512 ≤ L := by rw [← hL]; have := Nat.mul_le_mul hsa1 hsz1; omega
  have hL2 : L ≤ 5760 := by rw [← hL]; have := Nat.mul_le_mul hsa2 hsz2; omega
  have hLs : (((sa : Int) * (sz : Int)).toNat) = L := by rw [← Int.natCast_mul, Int.toNat_natCast, hL]
  rw [show (Geo.mk sa sz gc gd ge).a * (Geo.mk sa sz gc gd ge).b = (sa : Int) * (sz : Int) from rfl, hLs] at hR
  have hprod : IntKind.i64.wrap ((sz : Int) * (sa : Int)) = (L : Int) := by
    rw [Int.mul_comm, ← Int.natCast_mul, hL]; exact IntWalk.i64_in _ (by omega)
  have hmk := fun W => run_make_zs L (by omega) W
  have hownz := own_zs L (by omega) w5 w5.heap.size (Nat.le_refl _)
  have hzl : (List.replicate L (0 : UInt8)).length = L := List.length_replicate
  have HZL := Lib.hid hzl
  have hb'5 := (hb'.below hb50).alloc (.cells (zsN L).toArray 5 (0, 0))
  clear hL hLs hzl
  obtain ⟨y0, y1, y2, y3, y4⟩ := HQY.out _ hy5
  go_upto_region 9 with fail
  have hR6 := hR.below (below_alloc w5 (.cells (zsN L).toArray 5 (0, 0)))
  have hq6 := hq5.alloc (.cells (zsN L).toArray 5 (0, 0))
  have hb60 := hb50.alloc z5 (.cells (zsN L).toArray 5 (0, 0))
  have hcb := hR.lt
  have hcm := hR.c.lt
  have hx5 := hq5.lt
  have hxn : w0.heap.size < w3.heap.size := by omega
  clear hR hq5 hb50 y0 y1 y2 y3 y4 hy5 hmk
  go_upto_region 10 with (refine wpList_wanted (by rfl) fun K hK => wp_copy_byts _ _ rfl 0 rfl rfl hownz hb'5 rfl (fun _ => ⟨_, _, _, rfl, rfl⟩) (by rw [HZL.out]; omega) ?_; intro w7 hown7 hg7; refine hK _ _ ?_; clear hK K)
  have hzX : ((List.replicate L (0 : UInt8)).take 0 ++ b.take L ++ (List.replicate L (0 : UInt8)).drop (0 + min b.length L)).length = L := by
    simp only [List.length_append, List.length_take, List.length_drop, HZL.out]; omega
  have hbX : b.length = L → (List.replicate L (0 : UInt8)).take 0 ++ b.take L ++ (List.replicate L (0 : UInt8)).drop (0 + min b.length L) = b := by
    intro h
    rw [List.drop_of_length_le (by rw [HZL.out]; omega), List.take_of_length_le (l := b) (by omega)]
    simp
  generalize (List.replicate L (0 : UInt8)).take 0 ++ b.take L ++ (List.replicate L (0 : UInt8)).drop (0 + min b.length L) = X at *
  have HX := Lib.hid hzX
  have HBX := Lib.hid hbX
  have ho7 : Only [w5.heap.size] (w5.alloc (.cells (zsN L).toArray 5 (0, 0))) w7 := Only.of_grown hg7
  have hpF := hR6.p.lt pb (by simp)
  have hR7 := hR6.only ho7 (by intro y hy; have := hcm y hy; simp; omega) (by intro y hy; simp at hy; subst hy; simp; omega)
  have hq7 := hq6.only ho7 (by simp; omega)
  have hb70 := hb60.trans (ho7.below (B := w0.heap.size) (by simpa using z5) hb60.size)
  have hb'7 := hb'.below hb70
  have hsz7 : w5.heap.size < w7.heap.size := (hown7.lt (by rfl)).2
  clear hR6 hq6 hb60 hb'5 hownz hg7 ho7 hzX hbX
  generalize w5.heap.size = xg at *
  have z7 := hb70.size
  go_upto_region 11 with (at_builtin; refine wpList_wanted (by rfl) fun K hK => wp_clone_byts _ rfl rfl hown7.read HX.out.symm (by rw [HX.out]; omega) (Nat.le_refl _) ?_; intro r w8 hown8 hb8 hz8; refine hK _ _ ?_; clear hK K)
  obtain ⟨A11, c11, rfl, hc11, hby8, hA11⟩ := hown8.byts
  have hx8 := hown7.below hb8
  have hR8 := hR7.below hb8
  have hq8 := hq7.below hb8
  have hb80 := hb70.trans (hb8.mono z7)
  have hb'8 := hb'.below hb80
  have hc7 := hR7.lt
  have hm7 := hR7.c.lt mb (by simp)
  have hcb7 := hR7.c.lt cb (by simp)
  rw [HX.out]
  clear hR7 hq7 hb70 hb8 hown8 hz8 hown7 hb'7
  have hX8 := hx8.read
  obtain ⟨k, l2, hl2, hk2, HLB⟩ : ∃ (k : Int) (l2 : List UInt8), Hid (l2 = X) ∧ ((k == 0) = ((b.length : Int) == (L : Int))) ∧ Hid (∀ W, Rig w3.heap.size W cb bb mb pb [pb] ⟨sa, sz, gc, gd, ge⟩ X 0 (fun _ => 0) PS.new → Byts W A' b →
      Calls Try.prog 27 #[.pointer (some ⟨cb, 0, none⟩), .slice A' b.length c'] W fun e w' => e = .returned (.int .i64 k) ∧ Rig w3.heap.size w' cb bb mb pb [pb] ⟨sa, sz, gc, gd, ge⟩ X 0 (fun _ => 0) PS.new ∧ Only [bb] W w') := by
    by_cases h : b.length = L
    · refine ⟨0, X, rfl, by simp [h], fun W hR hby => ?_⟩
      have e := HBX.out h
      have h1 := rig_load hR A' b.length c' b hby rfl (by rw [h, HX.out])
      rw [← e] at h1 ⊢
      exact h1
    · refine ⟨1, X, rfl, by simp; omega, fun W hR hby => ?_⟩
      exact (nor_load_bad hR.c A' b.length c' (by rw [HX.out]; exact h) (by omega)).mono fun e w' ⟨he, hw⟩ => ⟨he, hw ▸ hR, hw ▸ Only.refl _ _⟩
  have HK2 := Lib.hid hk2
  clear hk2
  have hlen9 : (ffs L).length = L := ffs_length L
  have HL9 := Lib.hid hlen9
  clear hlen9
  go_upto_region 12 with (first
    | (go_at_call 27; (with_reducible refine (rig_load hR8 _ _ _ X hX8 HX.out.symm (HX.out.trans HL9.out.symm)).mono ?_); rintro e w9 ⟨rfl, hR9, ho9⟩; have hb90 := hb80.trans (ho9.below (fun y hy => Nat.le_trans (Nat.le_of_lt hxn) (hR8.own y (by simp at hy ⊢; omega))) hb80.size); have hb'9 := hb'.below hb90)
    | (go_at_call 27; refine (HLB.out _ hR9 hb'9).mono ?_; rintro e w10 ⟨rfl, hR10, ho10⟩))
  have hB1 : ∀ y ∈ [bb], w0.heap.size ≤ y := fun y hy => Nat.le_trans (Nat.le_of_lt hxn) (hR8.own y (by simp at hy ⊢; omega))
  have hb100 := hb90.trans (ho10.below hB1 hb90.size)
  have h3b := hR8.own bb (by simp)
  have hq9 := hq8.only ho9 (by simp; omega)
  have hq10 := hq9.only ho10 (by simp; omega)
  have hx9 := hx8.only ho9 (fun y e => by cases e; simp; omega)
  have hx10 := hx9.only ho10 (fun y e => by cases e; simp; omega)
  have hby9 := hby8.only ho9 (fun y e _ => by have := (hA11 y e).1; simp; omega)
  have hby10 := hby9.only ho10 (fun y e _ => by have := (hA11 y e).1; simp; omega)
  have hc10 := hx10.cell (i := 0) (by rw [HX.out]; omega)
  have hf10 := hx10.frz 0
  clear hR8 hR9 ho9 ho10 hb90 hb80 hq8 hq9 hx8 hx9 hx10 hX8 hby8 hby9 hb'8 hb'9 HLB hB1
  generalize X[0]'(by rw [HX.out]; omega) = xv at *
  go_upto_region 14 with fail
  have hRS := fun u => hR10.only ((Only.refl [xg] w10).setCell (p := ⟨xg, 0, none⟩) (by simp) u) (by intro y hy; have := hcm y hy; simp; omega) (by intro y hy; simp at hy; subst hy; have := hcb.2; simp; omega)
  have hqS := fun u => hq10.set_other (p := ⟨xg, 0, none⟩) (by show w0.heap.size ≠ xg; omega) u
  have hbS := fun u => hb100.setCell (p := ⟨xg, 0, none⟩) (by show w0.heap.size ≤ xg; omega) u
  have hyS := fun u => hby10.far ⟨xg, 0, none⟩ u (fun y e => by have := (hA11 y e).1; simp; omega)
  clear hR10 hq10 hb100 hby10
  have R1 := Lib.hid (readL_zero X L (by rw [HX.out]; exact Nat.le_refl _))
  have HXT := Lib.hid (show X.take L = X by rw [← HX.out, List.take_length])
  generalize hv : bits .xor .u8 (xv.toNat : Int) 1 = vv at *
  obtain ⟨w11, hw11⟩ : ∃ w11, w10.setCell ⟨xg, 0, none⟩ (.int .u8 vv) = w11 := ⟨_, rfl⟩
  have hR11 := hRS (.int .u8 vv)
  have hq11 := hqS (.int .u8 vv)
  have hb110 := hbS (.int .u8 vv)
  have hby11 := hyS (.int .u8 vv)
  clear hRS hqS hbS hyS hv hc10 hf10
  rw [hw11] at *
  clear hw11
  have z11 := hb110.size
  go_upto_region 17 with (first
    | (go_at_call 20; (with_reducible refine (nor_read_nil 0 1 _).mono ?_); rintro e w13 ⟨rfl, rfl⟩)
    | (go_at_call 20; refine (rig_read hR11 0 (L : Int) (by decide) (by omega) R1.out.1 (R1.out.2.trans HXT.out) HX.out).mono ?_; rintro e w12 ⟨A14, c14, rfl, hc14, hby14, hA14, hb12⟩))
  have hq12 := hq11.below hb12
  have hb120 := hb110.trans (hb12.mono z11)
  have hby12 := hby11.below hb12
  have z12 := hb120.size
  clear hR11 hq11 hb110 hby11 hb12
  have hxx : (X == X) = true := by simp
  have HXX := Lib.hid hxx
  clear hxx
  obtain ⟨qk, hqk⟩ : ∃ qk, (k == 0) = qk := ⟨_, rfl⟩
  have hqk2 : ((b.length : Int) == (L : Int)) = qk := by rw [← hqk, HK2.out]
  have HQ1 := Lib.hid hqk
  have HQ2 := Lib.hid hqk2
  clear hqk hqk2
  have hdd : (dk == dk) = true := by simp
  have her := HER.out
  have hqk := HQ1.out
  have hqk2 := HQ2.out
  have hqq : (qk == qk) = true := by simp
  have HGN : Hid (∀ W : World, Calls Try.prog 31 #[.pointer none] W fun e w' => e = .returned (.agg #[.int .i64 0, .int .i64 0, .int .i64 0, .int .i64 0, .int .i64 0]) ∧ Below W.heap.size W w') := fun W => nor_geometry_nil (w := W)
  have hd12 : w12.drew.heap.size = w12.heap.size := rfl
  simp only [List.append]
  go_region_held3 (fun w' => w'.cell? ⟨w0.heap.size, 0, none⟩ = some (.int .i64 g0) ∧ w'.cell? ⟨w0.heap.size, 1, none⟩ = some (.int .i64 g1) ∧ w'.cell? ⟨w0.heap.size, 2, none⟩ = some (.int .i64 g2) ∧ w'.cell? ⟨w0.heap.size, 3, none⟩ = some (.int .i64 g3) ∧ w'.cell? ⟨w0.heap.size, 4, none⟩ = some (.int .i64 g4))
    (first | (with_reducible exact HQ.out _ hq12) | (with_reducible exact HQ.out _ hq12.drew) | (with_reducible exact HQ.out _ hq13) | (with_reducible exact HQ.out _ hq14) | (with_reducible exact HQ.out _ hq15) | (with_reducible exact HQ.out _ hq16) | (with_reducible exact HQ.out _ hq17))
    (first
      | (go_at_call 15; refine (awake04 _).mono ?_; rintro e w13 ⟨rfl, hb13⟩; have hq13 := hq12.drew.below hb13; have hb130 := hb120.drew.trans (hb13.mono (by omega)); have hby13 := hby12.below (w' := w13) (below_drew hb13); have hbz13 := hby14.below (w' := w13) (below_drew hb13); clear hq12 hb120 hby12 hby14 hb13)
      | (go_at_call 28; refine (HR1.out _).mono ?_; rintro e w14 ⟨rfl, hb14⟩; rw [HDK.out]; have hq14 := hq13.below hb14; have hb140 := hb130.trans (hb14.mono hb130.size); have hby14 := hby13.below hb14; have hbz14 := hbz13.below hb14; clear hq13 hb130 hby13 hbz13 hb14)
      | (go_at_call 29; refine (HR2.out _).mono ?_; rintro e w15 ⟨rfl, hb15⟩; rw [HDK.out]; have hq15 := hq14.below hb15; have hb150 := hb140.trans (hb15.mono hb140.size); have hby15 := hby14.below hb15; have hbz15 := hbz14.below hb15; clear hq14 hb140 hby14 hbz14 hb15)
      | (go_at_call 28; refine (HR1.out _).mono ?_; rintro e w16 ⟨rfl, hb16⟩; rw [HDK.out]; have hq16 := hq15.below hb16; have hb160 := hb150.trans (hb16.mono hb150.size); have hby16 := hby15.below hb16; have hbz16 := hbz15.below hb16; clear hq15 hb150 hby15 hbz15 hb16)
      | (go_at_call 23; refine (help_bytes _ _ _ _ _ _ _ _ _ hbz16 HX.out.symm hby16 HX.out.symm).mono ?_; rintro e w' ⟨rfl, rfl⟩; rw [HXX.out])
      | (go_at_call 19; refine (nor_program_nil 0 none 0 0 (by decide) _).mono ?_; rintro e w' ⟨rfl, rfl⟩)
      | (go_at_call 21; refine (nor_erase_nil 0 _).mono ?_; rintro e w' ⟨rfl, rfl⟩)
      | (go_at_call 27; refine (nor_load_nil none 0 0 _).mono ?_; rintro e w' ⟨rfl, rfl⟩)
      | (go_at_call 22; refine (nor_erases_nil 0 _).mono ?_; rintro e w' ⟨rfl, rfl⟩)
      | (go_at_call 30; refine nor_power_nil.mono ?_; rintro e w' ⟨rfl, rfl⟩)
      | (go_at_call 31; refine (HGN.out _).mono ?_; rintro e w17 ⟨rfl, hb17⟩; have hq17 := hq16.below hb17))
  go_wp2_with fail
  go_ret
  exact ⟨rfl, hb160.trans (hb17.mono hb160.size)⟩
end Go.Proofs.Ytcdgpioljilgeaa
