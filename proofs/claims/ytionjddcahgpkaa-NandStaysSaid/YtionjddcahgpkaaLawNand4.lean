/- The walk of NandStays. -/
import Derived.Test.YtionjddcahgpkaaNandG
import Derived.Test.YtionjddcahgpkaaLawNand3
import Derived.Deep.RegionHeldLaw
set_option linter.unusedVariables false
set_option maxRecDepth 100000
set_option linter.unusedSimpArgs false
namespace Go.Proofs.Ytionjddcahgpkaa
open Go.RowKit

set_option maxHeartbeats 8000000 in
theorem nandStays_walk {w : World} (g0 g1 g2 g3 g4 : Int) (A : Option Addr) (c : Nat) (xs : List (List UInt8)) (hcap : xs.length ≤ c ∧ c ≤ maxLen) (hr : Rows w A xs) (bk : Int) (wb : (Lit.int .i64 bk).wf = true) :
    Calls Try.prog 3 #[.agg #[.int .i64 g0, .int .i64 g1, .int .i64 g2, .int .i64 g3, .int .i64 g4], .slice A xs.length c, .int .i64 bk] w fun e w' => e = .returned (.bool true) ∧ Below w.heap.size w w' := by
  obtain ⟨w0, rfl⟩ : ∃ w0 : World, w0 = w := ⟨_, rfl⟩
  have hl63 : xs.length ≤ 9223372036854775807 := Nat.le_trans hcap.1 hcap.2
  have hs0 : w0.heap.size ≤ w0.heap.size := Nat.le_refl _
  have bb := wf_i64 wb
  clear wb
  obtain ⟨xn, hxn⟩ : ∃ k, xs.length = k := ⟨_, rfl⟩
  rw [hxn] at hcap hl63 ⊢
  have HXN := Lib.hid hxn
  have HR0 := Lib.hid hr
  clear hxn hr
  have hbx := Blk.new w0 [.int .i64 g0, .int .i64 g1, .int .i64 g2, .int .i64 g3, .int .i64 g4] 23
  have hbel := below_alloc w0 (.cells [.int .i64 g0, .int .i64 g1, .int .i64 g2, .int .i64 g3, .int .i64 g4].toArray 23 (0, 0))
  have hlt0 := hbx.lt
  obtain ⟨sa, sz, gc, gd, ge, hG, hok, hsa1, hsa2, -, hsz1, hsz2, hgc1, hgc2, hgd1, hgd2, hge1, hge2⟩ := playG_is ⟨g0, g1, g2, g3, g4⟩
  have HG := Lib.hid (fun W => play_geometry_as g0 g1 g2 g3 g4 W hG)
  clear hG
  have b0 := hbx.cell 0 _ rfl
  have b1 := hbx.cell 1 _ rfl
  have b2 := hbx.cell 2 _ rfl
  have b3 := hbx.cell 3 _ rfl
  have b4 := hbx.cell 4 _ rfl
  go_enter Try.func3, Try.ntmps3
  go_upto_region 2 with (go_at_call 7; refine (HG.out _).mono ?_; rintro e w1 ⟨rfl, hb1⟩; have hz1 := hbx.below hb1; have e0 := hz1.cell 0 _ rfl; have e1 := hz1.cell 1 _ rfl; have e2 := hz1.cell 2 _ rfl; have e3 := hz1.cell 3 _ rfl; have e4 := hz1.cell 4 _ rfl; have f0 := hz1.frz 0; have f1 := hz1.frz 1; have f2 := hz1.frz 2; have f3 := hz1.frz 3; have f4 := hz1.frz 4; have hs1 := hb1.size)
  have hq := box_turned hz1 (u0 := .int .i64 (sa : Int)) (u1 := .int .i64 (sz : Int)) (u2 := .int .i64 (gc : Int)) (u3 := .int .i64 (gd : Int)) (u4 := .int .i64 (ge : Int))
  have hbq := box_below (hbel.trans (hb1.mono hbel.size)) hs0 (u0 := .int .i64 (sa : Int)) (u1 := .int .i64 (sz : Int)) (u2 := .int .i64 (gc : Int)) (u3 := .int .i64 (gd : Int)) (u4 := .int .i64 (ge : Int))
  clear hz1 e0 e1 e2 e3 e4 f0 f1 f2 f3 f4 b0 b1 b2 b3 b4 hbx hb1 hbel hs1 hlt0
  generalize (((((w1.setCell ⟨w0.heap.size, 0, none⟩ (.int .i64 (sa : Int))).setCell ⟨w0.heap.size, 1, none⟩ (.int .i64 (sz : Int))).setCell ⟨w0.heap.size, 2, none⟩ (.int .i64 (gc : Int))).setCell ⟨w0.heap.size, 3, none⟩ (.int .i64 (gd : Int))).setCell ⟨w0.heap.size, 4, none⟩ (.int .i64 (ge : Int))) = w3 at *
  have hs3 := hq.lt
  obtain ⟨q3, hq3e⟩ : ∃ q, w0.heap.size = q := ⟨_, rfl⟩
  rw [hq3e] at hq hs3 ⊢
  have HQ3 := Lib.hid hq3e
  clear hq3e
  have HQ : Hid (∀ (W : World), Below w3.heap.size w3 W → W.cell? ⟨q3, 0, none⟩ = some (.int .i64 (sa : Int)) ∧ W.cell? ⟨q3, 1, none⟩ = some (.int .i64 (sz : Int)) ∧ W.cell? ⟨q3, 2, none⟩ = some (.int .i64 (gc : Int)) ∧ W.cell? ⟨q3, 3, none⟩ = some (.int .i64 (gd : Int)) ∧ W.cell? ⟨q3, 4, none⟩ = some (.int .i64 (ge : Int))) := fun W h =>
    ⟨(hq.below h).cell 0 _ rfl, (hq.below h).cell 1 _ rfl, (hq.below h).cell 2 _ rfl, (hq.below h).cell 3 _ rfl, (hq.below h).cell 4 _ rfl⟩
  have HOK := Lib.hid hok
  have hX3 := (Below.refl w3.heap.size w3).drew
  have HNW : Hid (∀ (pb : Nat) (W : World), Calls Try.prog 8 #[.agg #[.int .i64 (sa : Int), .int .i64 (sz : Int), .int .i64 (gc : Int), .int .i64 (gd : Int), .int .i64 (ge : Int)], .pointer (some ⟨pb, 0, none⟩)] W fun e w' => ∃ cb m1 m2 m3, e = .returned (.tuple #[.pointer (some ⟨cb, 0, none⟩), .int .i64 0]) ∧ (∀ x ∈ [cb, m1, m2, m3], W.heap.size ≤ x ∧ x < w'.heap.size) ∧
      (∀ L, (∀ x ∈ [cb, m1, m2, m3], x < L) → L ≤ w'.heap.size → NandC w' L cb m1 m2 m3 (some ⟨pb, 0, none⟩) ⟨sa, sz, gc, gd, ge⟩ 0 (nNew ⟨sa, sz, gc, gd, ge⟩)) ∧ Below W.heap.size W w') := fun pb W => nand_new ⟨sa, sz, gc, gd, ge⟩ (some ⟨pb, 0, none⟩) W HOK.out
  have a0 := (HQ.out _ (Below.refl _ _))
  go_region_held3 (fun w' => w'.cell? ⟨q3, 0, none⟩ = some (.int .i64 (sa : Int)) ∧ w'.cell? ⟨q3, 1, none⟩ = some (.int .i64 (sz : Int)) ∧ w'.cell? ⟨q3, 2, none⟩ = some (.int .i64 (gc : Int)) ∧ w'.cell? ⟨q3, 3, none⟩ = some (.int .i64 (gd : Int)) ∧ w'.cell? ⟨q3, 4, none⟩ = some (.int .i64 (ge : Int)))
    (first | exact a0 | exact HQ.out _ hX3)
    (first
      | (go_at_call 9; refine (pow_new _).mono ?_; rintro e w4 ⟨v, rfl, pb, rfl, hpb, hpbl, hp4, hb4⟩; replace hX3 := hX3.trans (hb4.mono hX3.size))
      | (go_at_call 8; refine (HNW.out _ _).mono ?_; rintro e w5 ⟨cb, m1, m2, m3, rfl, hlt5, hc5, hb5⟩; replace hX3 := hX3.trans (hb5.mono hX3.size)))
  have hL5 := hlt5
  have hsz5 : w3.heap.size ≤ pb ∧ pb < w5.heap.size := ⟨hpb, Nat.lt_of_lt_of_le hpbl hb5.size⟩
  have hpb' : ∀ x ∈ [cb, m1, m2, m3], pb < x := fun x hx => Nat.lt_of_lt_of_le hpbl (hlt5 x hx).1
  have hb30 := hbq.size
  have hT0 : CtxS w0 q3 w5.heap.size cb m1 m2 m3 pb sa sz gc gd ge 0 (nNew ⟨sa, sz, gc, gd, ge⟩) (onS 0) A xs (.slice none 0 0) [] w5 := by
    refine ⟨hc5 _ (fun x hx => (hlt5 x hx).2) (Nat.le_refl _), hp4.below hb5, ⟨fun hm => Nat.lt_irrefl _ (hpb' pb hm), hsz5.2⟩, hq.below hX3, fun hm => ?_, HR0.out, Want.nil _ _, fun x hx => ?_, hbq.trans (hX3.mono hb30)⟩
    · have e1 := hpb' m1 (by simp)
      have e2 := hpb' m2 (by simp)
      have e3 := hpb' m3 (by simp)
      simp at hm
      omega
    · have e1 := hpb' m1 (by simp)
      have e2 := hpb' m2 (by simp)
      have e3 := hpb' m3 (by simp)
      simp at hx
      omega
  clear hc5 hlt5 hL5 hp4 hb5 hb4 hX3 hpb' hsz5 hpb hpbl a0 HNW HQ hq hbq hs3 hb30 HG
  obtain ⟨L, hL⟩ : ∃ L, w5.heap.size = L := ⟨_, rfl⟩
  rw [hL] at hT0
  clear hL
  go_upto_region 5 with (go_at_call 10; refine (awake05 _).mono ?_; rintro e w6 ⟨rfl, hx⟩; replace hT0 := hT0.below hx; clear hx)
  obtain ⟨c2, c3, c4⟩ := hT0.cells
  obtain ⟨M, hM⟩ : ∃ M, gc * gd = M := ⟨_, rfl⟩
  have hMb : M ≤ 48 := by rw [← hM]; exact Nat.le_trans (Nat.mul_le_mul hgc2 hgd2) (by decide)
  have hmul : IntKind.i64.wrap ((gc : Int) * (gd : Int)) = (M : Int) := by
    have : (gc : Int) * (gd : Int) = (M : Int) := by rw [← hM]; push_cast; rfl
    rw [this]; exact IntWalk.i64_in _ (by omega)
  have hmul2 : (gc : Int) * (gd : Int) = (M : Int) := by rw [← hM]; push_cast; rfl
  have HM := Lib.hid (And.intro hM hmul2)
  clear hM hmul2
  go_cut [9] (fun v9 w' => ∃ K : Nat, v9 = .int .i64 (K : Int) ∧ K ≤ xn ∧ K ≤ M ∧ w' = w6)
  case first =>
    by_cases hlt : (M : Int) < (xn : Int)
    · go_wp2_with fail
      go_meet
      exact ⟨M, by first | rfl | (simp; omega), by omega, Nat.le_refl _, rfl⟩
    · go_wp2_with fail
      go_meet
      exact ⟨xn, by first | rfl | (simp; omega), Nat.le_refl _, by omega, rfl⟩
  case rest =>
    obtain ⟨K, rfl, hKx, hKM, hw⟩ := hcut
    obtain rfl := hw
    clear c2 c3 c4 hmul
    obtain ⟨X, hX⟩ : ∃ X : Nat → List UInt8, X = fun j => fitL (xs.getD j []) ge := ⟨_, rfl⟩
    have HX : Hid ((∀ j, (X j).length = ge) ∧ ∀ j (h : j < xs.length), X j = fitL xs[j] ge) := by
      refine ⟨fun j => by rw [hX]; exact fitL_length _ _, fun j h => ?_⟩
      rw [hX]
      show fitL (xs.getD j []) ge = _
      rw [List.getD_eq_getElem?_getD, List.getElem?_eq_getElem h]
      rfl
    clear hX
    have HF0 : Hid (Filled gd X 0 (nNew ⟨sa, sz, gc, gd, ge⟩)) := Filled.new _ _ _ (by omega)
    go_upto_region 8 with fail
    go_loopw [10, 11] (fun v10 v11 wr => ∃ (i N : Nat) (n : NSt) (ws : List (List UInt8)), i ≤ K ∧ N ≤ i ∧ v11 = .int .i64 (i : Int) ∧ CtxS w0 q3 L cb m1 m2 m3 pb sa sz gc gd ge N n (onS i) A xs v10 ws wr ∧ Hid (Filled gd X i n) ∧ Hid (ws = (List.range i).map X)) (fun _ v11 _ => K - (intOf v11).toNat)
    case atStart => exact ⟨0, 0, _, [], Nat.zero_le _, Nat.le_refl _, rfl, hT0, HF0, rfl⟩
    case round =>
      clear hT0
      obtain ⟨i, N, n, ws, hi, hN, rfl, hT, HFi, HWS⟩ := hrel
      obtain ⟨wo, rfl⟩ : ∃ wo, wo = wr := ⟨_, rfl⟩
      by_cases hlt : i < K
      · have hltI : (i : Int) < (K : Int) := by omega
        have hix : i < xs.length := by rw [HXN.out]; omega
        have hltx : (i : Int) < (xn : Int) := by omega
        obtain ⟨b, off, B', c', rfl, hcell0, hy0⟩ := hT.r i hix
        obtain ⟨xl, hxl⟩ : ∃ k, xs[i].length = k := ⟨_, rfl⟩
        rw [hxl] at hcell0
        have HRC : Hid (∀ W, Below w0.heap.size w0 W → W.cell? ⟨b, off + i, none⟩ = some (.slice B' xl c') ∧ Byts W B' xs[i]) := fun W hW => ⟨(hW.cell (p := ⟨b, off + i, none⟩) (World.block_lt_of_cell? w0 _ hcell0)).trans hcell0, hy0.below hW⟩
        have hcell := (HRC.out _ hT.bel).1
        clear hcell0 hy0
        have HXL := Lib.hid hxl
        clear hxl
        by_cases hbig : 500 < xl
        · have hbigI : (500 : Int) < (xl : Int) := by omega
          have hbe := hT.bel
          clear hT
          go_wp2_with fail
          go_ret
          exact ⟨rfl, hbe⟩
        · have hbigI : ¬ (500 : Int) < (xl : Int) := by omega
          obtain ⟨c2, c3, c4⟩ := hT.cells
          have hbl := World.block_lt_of_cell? wo _ hcell
          have hq3l : q3 < wo.heap.size := hT.k.lt
          have hi48 : i < 48 := by omega
          have hTd := hT.below (Below.refl _ _).drew
          have hyd := (HRC.out _ hTd.bel).2
          have hcelld : wo.drew.cell? ⟨b, off + i, none⟩ = some (.slice B' xl c') := hcell
          have c4d : wo.drew.cell? ⟨q3, 4, none⟩ = some (.int .i64 (ge : Int)) := c4
          have HFT : Hid (∀ W, Byts W B' xs[i] → Calls Try.prog 11 #[.slice B' xl c', .int .i64 (ge : Int)] W (Ret fun v w' => ∃ q, v = .slice (some ⟨q, 0, none⟩) ge ge ∧ W.heap.size ≤ q ∧ Own w' W.heap.size v (X i) ∧ Below W.heap.size W w')) := fun W hyW => by
            have h := law_fit B' xl c' xs[i] ge W hyW HXL.out.symm (by omega)
            rw [HX.out.2 i hix]
            exact h
          have HLE : Hid (∀ W, Below wo.heap.size wo W → L ≤ W.heap.size) := fun W hW => Nat.le_trans hT.c.le hW.size
          have hwl : Hid (ws.length + 1 ≤ 100000000) := by show ws.length + 1 ≤ _; rw [HWS.out, List.length_map, List.length_range]; omega
          have HXl := HX.out.1 i
          have h0X : Hid (0 < (X i).length) := by show 0 < (X i).length; rw [HXl]; omega
          have HXE := Lib.hid HXl
          clear HXl
          go_upto_region 12 with fail
          have s6 := And.intro hcell c4
          have s6d := And.intro hcelld c4d
          go_region_held_law (fun w' => w'.cell? ⟨b, off + i, none⟩ = some (.slice B' xl c') ∧ w'.cell? ⟨q3, 4, none⟩ = some (.int .i64 (ge : Int)))
            (first | (with_reducible exact s8) | (with_reducible exact s7a) | (with_reducible exact s7) | (with_reducible exact s6d) | (with_reducible exact s6))
            (first
            | (go_simp; go_at_call 11; refine (HFT.out _ hyd).mono ?_; rintro e w7 ⟨v, rfl, q, rfl, hq, hown7, hx⟩; have hT7 := hTd.below hx; have s7 := And.intro (HRC.out _ hT7.bel).1 hT7.cells.2.2; have hT7a := hT7.below (below_alloc w7 (.cells #[.slice (some ⟨q, 0, none⟩) ge ge] 33)); have s7a := And.intro (HRC.out _ hT7a.bel).1 hT7a.cells.2.2)
            | (refine step_by (by rfl) (wp_append_want _ _ rfl rfl rfl hT7a.wt (new_cell w7 [.slice (some ⟨q, 0, none⟩) ge ge] 33 (0, 0) 0 _ rfl) HXE.out.symm (hown7.read.below (below_alloc w7 (.cells #[.slice (some ⟨q, 0, none⟩) ge ge] 33))) (Nat.le_trans (HLE.out _ (Below.refl _ _).drew) hq) h0X.out hwl.out hT7a.c.le ?_); intro v8 w8 hw8 hg8 hh8; have hT8 := hT7a.grow hg8 hh8 hw8; have s8 := And.intro (HRC.out _ hT8.bel).1 hT8.cells.2.2))
          go_simp
          have hwlen : (ws ++ [X i]).length = i + 1 := by rw [List.length_append, HWS.out, List.length_map, List.length_range]; rfl
          have hwsi : ws.length = i := by rw [HWS.out, List.length_map, List.length_range]
          obtain ⟨Aw, cw, e8, hat⟩ := hT8.wt.at
          obtain ⟨ii, hii⟩ : ∃ k, i + 1 = k := ⟨_, rfl⟩
          rw [hwlen, hii] at e8
          have i1 : (i : Int) < (ii : Int) := by omega
          have HII := Lib.hid hii
          clear hii
          subst e8
          obtain ⟨bw, ow, qw, cw', rfl, hcw, hyw, hLw, hLbw⟩ := hat i (by omega)
          have hgi : (ws ++ [X i])[i]'(by omega) = X i := by rw [List.getElem_append_right (by omega)]; simp [hwsi]
          rw [hgi] at hcw hyw
          rw [HXE.out] at hcw
          have HT8 := Lib.hid (And.intro hT8 (And.intro hyw hwsi))
          have c38 := hT8.cells.2.1
          clear hT7 hT7a hTd s6 s6d s7 s7a s8 hT hown7 hx hyd hcelld c4d hcell c2 c3 c4 hat hT8 hyw hwsi hg8 hh8 hw8 HFT
          have hgd0 : (gd : Int) ≠ 0 := by omega
          have hgd0' : gd ≠ 0 := by omega
          have hK8 : ∀ W, Below w8.heap.size w8 W → W.cell? ⟨q3, 3, none⟩ = some (.int .i64 (gd : Int)) ∧ W.cell? ⟨bw, ow + i, none⟩ = some (.slice (some ⟨qw, 0, none⟩) ge cw') := fun W hW =>
            ⟨(HT8.out.1.below hW).cells.2.1, (hW.cell (p := ⟨bw, ow + i, none⟩) (World.block_lt_of_cell? w8 _ hcw)).trans hcw⟩
          have s8 := hK8 _ (Below.refl _ _)
          have s8d := hK8 _ (Below.refl w8.heap.size w8).drew
          have hb9 := (below_alloc w8 (.cells #[.int .u8 (i : Int)] 5)).drew
          have s9 := hK8 _ hb9
          have HK8 := Lib.hid hK8
          have hyi : Byts (w8.alloc (.cells #[.int .u8 (i : Int)] 5)).drew (some ⟨w8.heap.size, 0, none⟩) [UInt8.ofNat i] := by
            refine Or.inr ⟨w8.heap.size, 0, rfl, fun j hj => ?_⟩
            obtain rfl : j = 0 := by simp at hj; omega
            have e : ((UInt8.ofNat i).toNat : Int) = (i : Int) := by simp; omega
            have h := new_cell w8 [.int .u8 (i : Int)] 5 (0, 0) 0 _ rfl
            show (w8.alloc (.cells #[.int .u8 (i : Int)] 5)).cell? _ = some (.int .u8 ((UInt8.ofNat i).toNat : Int))
            rw [e]
            exact h
          have HSP : Hid (Calls Try.prog 11 #[.slice (some ⟨w8.heap.size, 0, none⟩) 1 1, .int .i64 16] (w8.alloc (.cells #[.int .u8 (i : Int)] 5)).drew (Ret fun v w' => ∃ q, v = .slice (some ⟨q, 0, none⟩) 16 16 ∧ w8.heap.size ≤ q ∧ Own w' w8.heap.size v (spL i) ∧ Below w8.heap.size w8 w')) := by
            refine (law_fit (some ⟨w8.heap.size, 0, none⟩) 1 1 [UInt8.ofNat i] 16 _ hyi rfl (by omega)).mono ?_
            rintro e w' ⟨v, rfl, q, hv, hq, ho, hx⟩
            exact Ret.mk ⟨q, hv, Nat.le_trans hb9.size hq, ho.mono hb9.size, hb9.trans (hx.mono hb9.size)⟩
          have HBW : Hid (bw ∉ [m1, m2, m3, pb]) := fun hm => by have := HT8.out.1.lo _ hm; omega
          obtain ⟨qd, hqd⟩ : ∃ q, i / gd = q := ⟨_, rfl⟩
          obtain ⟨rm, hrm⟩ : ∃ q, i % gd = q := ⟨_, rfl⟩
          have hql : qd ≤ 48 := by rw [← hqd]; exact Nat.le_trans (Nat.div_le_self _ _) (by omega)
          have hd0 : (i : Int) / (gd : Int) = (qd : Int) := by rw [← hqd]; push_cast; rfl
          have hm0 : (i : Int) % (gd : Int) = (rm : Int) := by rw [← hrm]; push_cast; rfl
          have hd1 : (i : Int).tdiv (gd : Int) = (qd : Int) := by rw [Int.tdiv_eq_ediv_of_nonneg (Int.natCast_nonneg _)]; exact hd0
          have hm1 : (i : Int).tmod (gd : Int) = (rm : Int) := by rw [Int.tmod_eq_emod_of_nonneg (Int.natCast_nonneg _)]; exact hm0
          have hw1 : IntKind.i64.wrap (qd : Int) = (qd : Int) := IntWalk.i64_in _ (by omega)
          have hw2 : wrap64 (qd : Int) = (qd : Int) := by unfold wrap64; omega
          have HQR := Lib.hid (And.intro hqd (And.intro hrm hql))
          clear hqd hrm
          have HPGG : Hid (∀ (W : World) (q : Nat), CtxS w0 q3 L cb m1 m2 m3 pb sa sz gc gd ge N n (onS i) (some ⟨b, off, none⟩) xs (.slice (some ⟨bw, ow, none⟩) ii cw) (ws ++ [X i]) W → Byts W (some ⟨qw, 0, none⟩) (X i) → Byts W (some ⟨q, 0, none⟩) (spL i) → L ≤ q →
              Calls Try.prog 12 #[.pointer (some ⟨cb, 0, none⟩), .int .i64 (qd : Int), .int .i64 (rm : Int), .slice (some ⟨qw, 0, none⟩) ge cw', .slice (some ⟨q, 0, none⟩) 16 16] W
                fun e w' => e = .returned (.int .i64 0) ∧ ∃ n', Hid (NandC w' L cb m1 m2 m3 (some ⟨pb, 0, none⟩) ⟨sa, sz, gc, gd, ge⟩ (N + 1) n' ∧ Pow w' pb [pb] (onS (i + 1)) ∧ Only [m1, m2, m3, pb] W w' ∧ Filled gd X (i + 1) n')) := by
            intro W q hT hy1 hy2 hLq
            have h7 : ∀ z : Nat, z ≤ 48 → (-9223372036854775808 ≤ (z : Int) ∧ (z : Int) ≤ 9223372036854775807) := fun z hz => by omega
            rw [← HQR.out.1, ← HQR.out.2.1]
            have h3 : i / gd ≤ i := Nat.div_le_self _ _
            have h4 : i % gd ≤ i := Nat.mod_le _ _
            obtain ⟨n', hE, hF'⟩ := HFi.out.step (g := ⟨sa, sz, gc, gd, ge⟩) (by omega) rfl (by show (i : Int) < (gc : Int) * (gd : Int); rw [HM.out.2]; omega) (Int.natCast_nonneg _) (by rw [HXE.out])
            have hlp := hT.f.2
            refine (nand_program hT.c (by omega) hT.p hT.hd ((i / gd : Nat) : Int) ((i % gd : Nat) : Int) (h7 _ (Nat.le_trans h3 (by omega))) (h7 _ (Nat.le_trans h4 (by omega))) (some ⟨qw, 0, none⟩) ge cw' (X i) hy1 HXE.out (by omega) (some ⟨q, 0, none⟩) 16 16 (spL i) hy2 (fitL_length _ _) (by decide) (fun x e _ => by cases e; show qw ≠ pb; omega) (fun x e _ => by cases e; show q ≠ pb; omega) (by show i ≤ _; omega) hE).mono ?_
            rintro e w' ⟨rfl, hc, hp, ho⟩
            exact ⟨rfl, n', ⟨hc, hp, ho.mono (by simp), hF'⟩⟩
          clear hK8 hyi hb9 c38 hcw
          have hwr : IntKind.u8.wrap (i : Int) = (i : Int) := by rw [IntKind.wrap_u8']; omega
          have i0 : (0 : Int) ≤ (i : Int) := by omega
          go_upto_region 13 with fail
          go_region_held3 (fun w' => w'.cell? ⟨q3, 3, none⟩ = some (.int .i64 (gd : Int)) ∧ w'.cell? ⟨bw, ow + i, none⟩ = some (.slice (some ⟨qw, 0, none⟩) ge cw'))
            (first | (with_reducible exact s11) | (with_reducible exact s10) | (with_reducible exact s9) | (with_reducible exact s8d) | (with_reducible exact s8))
            (first
              | (go_at_call 11; refine HSP.out.mono ?_; rintro e w10 ⟨v, rfl, qs, rfl, hqs, howns, hx⟩; have s10 := HK8.out _ hx; have hT10 := HT8.out.1.below hx; have HPG := Lib.hid (HPGG.out w10 qs hT10 (HT8.out.2.1.below hx) howns.read (Nat.le_trans HT8.out.1.c.le hqs)))
              | (go_at_call 12; (with_reducible refine HPG.out.mono ?_); rintro e w11 ⟨rfl, n', H11⟩; have hT11 := hT10.turn H11.out.2.2.1 H11.out.1 H11.out.2.1; have s11 := And.intro hT11.cells.2.1 ((H11.out.2.2.1.cell (p := ⟨bw, ow + i, none⟩) (World.block_lt_of_cell? w10 _ s10.2) HBW.out).trans s10.2)))
          clear s8 s8d s9 s10 s11 hT10 hx howns hqs HPG HPGG HSP HK8 HBW
          have HWS2 : Hid (ws ++ [X i] = (List.range (i + 1)).map X) := by
            show _ = _
            rw [List.range_succ, List.map_append, ← HWS.out]
            rfl
          go_wp2_with fail
          go_roundw
          case rel => exact ⟨i + 1, N + 1, n', ws ++ [X i], by omega, by omega, by go_num, hT11, H11.out.2.2.2, HWS2⟩
          case measure => simp [intOf]; omega
      · obtain rfl : i = K := by omega
        have hltI : ¬ (i : Int) < (i : Int) := by omega
        obtain ⟨c2, c3, c4⟩ := hT.cells
        have hgc0 : gc ≠ 0 := by omega
        have hgcI : (gc : Int) ≠ 0 := by omega
        obtain ⟨bl, hbl, hbl2⟩ := mod_len bk gc (by omega) (by omega)
        have HBL := Lib.hid hbl
        have hgcu : IntKind.u64.wrap (gc : Int) = (gc : Int) := by
          have e : IntKind.u64.wrap (gc : Int) = (gc : Int) % 18446744073709551616 := by simp [IntKind.wrap, IntKind.bits, IntKind.signed]
          rw [e]; omega
        clear hbl
        have hoke : nOk ⟨sa, sz, gc, gd, ge⟩ (bl : Int) 0 := by unfold nOk; refine ⟨⟨Int.natCast_nonneg _, ?_⟩, Int.le_refl _, ?_⟩ <;> (show _ < _; simp only; omega)
        obtain ⟨n', hE, hnx', hpg'⟩ := filled_erase (g := ⟨sa, sz, gc, gd, ge⟩) (n := n) i (bl : Int) hoke
        have HER := Lib.hid (nand_erase hT.c (by omega) hT.p hT.hd (bl : Int) (by omega) (by show i ≤ _; omega) hE)
        have HPG := Lib.hid (And.intro hnx' hpg')
        clear hE hnx' hpg' hoke
        go_upto_region 16 with fail
        rw [HBL.out]
        go_upto_region 19 with (first
          | (go_at_call 13; (with_reducible refine HER.out.mono ?_); rintro e w7 ⟨rfl, hc7, hp7, ho7⟩; have hT7 := hT.turn ho7 hc7 hp7; have HPR := Lib.hid (nand_programmed hT7.c (bl : Int) (by omega)); rw [HPG.out.1] at HPR)
          | (go_at_call 14; (with_reducible refine HPR.out.mono ?_); rintro e w' ⟨rfl, rfl⟩))
        have hbe7 := hT7.bel
        have hws : ws.length = i := by rw [HWS.out, List.length_map, List.length_range]
        obtain ⟨Aw, cw, ew, hat0⟩ := hT7.wt.at
        rw [hws] at ew
        subst ew
        have hbl0 : 0 ≤ (bl : Int) := Int.natCast_nonneg _
        clear hT HER HPR hc7 hp7 ho7 c2 c3 c4 hgcu HF0 hat0
        go_loopw [12] (fun v12 wr => ∃ j : Nat, j ≤ i ∧ v12 = .int .i64 (j : Int) ∧ CtxS w0 q3 L cb m1 m2 m3 pb sa sz gc gd ge (N + 40) n' (onS (i + 1)) A xs (.slice Aw i cw) ws wr) (fun v12 _ => i - (intOf v12).toNat)
        case atStart => exact ⟨0, Nat.zero_le _, rfl, hT7⟩
        case round =>
          clear hT7 hbe7
          obtain ⟨j, hj, rfl, hT⟩ := hrel
          obtain ⟨wo, rfl⟩ : ∃ wo, wo = wr := ⟨_, rfl⟩
          by_cases hlt : j < i
          · have hltI : (j : Int) < (i : Int) := by omega
            obtain ⟨c2, c3, c4⟩ := hT.cells
            obtain ⟨qd, hqd⟩ : ∃ q, j / gd = q := ⟨_, rfl⟩
            obtain ⟨rm, hrm⟩ : ∃ q, j % gd = q := ⟨_, rfl⟩
            have hql : qd ≤ 48 := by rw [← hqd]; exact Nat.le_trans (Nat.div_le_self _ _) (by omega)
            have hgd0 : (gd : Int) ≠ 0 := by omega
            have hgd0' : gd ≠ 0 := by omega
            have hrml : rm < gd := by rw [← hrm]; exact Nat.mod_lt _ (by omega)
            have hqc : qd < gc := by
              rw [← hqd]
              exact (Nat.div_lt_iff_lt_mul (by omega)).2 (by have := HM.out.1; omega)
            have hok2 : nOk ⟨sa, sz, gc, gd, ge⟩ (qd : Int) (rm : Int) := by unfold nOk; refine ⟨⟨Int.natCast_nonneg _, ?_⟩, Int.natCast_nonneg _, ?_⟩ <;> (show _ < _; simp only; omega)
            have hpj := HFi.out.pg j hlt
            rw [hqd, hrm] at hpj
            obtain ⟨D, S, hDS⟩ : ∃ D S, n'.pg (qd : Int) (rm : Int) = (D, S) := ⟨_, _, rfl⟩
            have hrd : nRead ⟨sa, sz, gc, gd, ge⟩ n' (qd : Int) (rm : Int) = (D, S) := by unfold nRead; rw [if_pos hok2, hDS]
            have hszs := hT.c.n.sz (qd : Int) (rm : Int) hok2
            rw [hDS] at hszs
            have hDl : D.length = ge := by have := hszs.1; simp only at this; omega
            have hSl : S.length = 16 := hszs.2
            have hTd := hT.below (Below.refl _ _).drew
            have HRD := Lib.hid (nand_read hTd.c (qd : Int) (rm : Int) (k1 := ge) (k2 := 16) (by rw [hrd]; exact hDl) (by rw [hrd]; exact hSl))
            rw [hrd, nAsk_pos hok2] at HRD
            have HDS := Lib.hid (And.intro hDS (And.intro hDl (And.intro hSl hpj)))
            have hd0 : (j : Int) / (gd : Int) = (qd : Int) := by rw [← hqd]; push_cast; rfl
            have hm0 : (j : Int) % (gd : Int) = (rm : Int) := by rw [← hrm]; push_cast; rfl
            have hd1 : (j : Int).tdiv (gd : Int) = (qd : Int) := by rw [Int.tdiv_eq_ediv_of_nonneg (Int.natCast_nonneg _)]; exact hd0
            have hm1 : (j : Int).tmod (gd : Int) = (rm : Int) := by rw [Int.tmod_eq_emod_of_nonneg (Int.natCast_nonneg _)]; exact hm0
            have hw1 : IntKind.i64.wrap (qd : Int) = (qd : Int) := IntWalk.i64_in _ (by omega)
            have hw2 : wrap64 (qd : Int) = (qd : Int) := by unfold wrap64; omega
            have s0 := c3
            have s0d : wo.drew.cell? ⟨q3, 3, none⟩ = some (.int .i64 (gd : Int)) := c3
            have HQR := Lib.hid (And.intro hqd hrm)
            clear hqd hrm hpj hDS hrd hszs hDl hSl hok2
            go_upto_region 21 with fail
            go_region_held3 (fun w' => w'.cell? ⟨q3, 3, none⟩ = some (.int .i64 (gd : Int)))
              (first | (with_reducible exact s1) | (with_reducible exact s0d) | (with_reducible exact s0))
              (first
                | (go_at_call 15; (with_reducible refine HRD.out.mono ?_); rintro e w8 ⟨A1, c1, A2, c2', rfl, hr1, hr2, hx⟩; have hT8 := hTd.below hx; have s1 := hT8.cells.2.1))
            have HT8 := Lib.hid hT8
            have hr1' := Lib.hid hr1
            have hr2' := Lib.hid hr2
            have c48 := hT8.cells.2.2
            have c38 := hT8.cells.2.1
            clear hTd HRD hT8 hr1 hr2 hx s0 s0d s1 c2 c3 c4 hT
            go_upto_region 24 with fail
            obtain ⟨B1, d1, e1, -, hy1, -⟩ := hr1'.out.byts
            obtain ⟨B2, d2, e2, -, hy2, -⟩ := hr2'.out.byts
            simp only [Value.slice.injEq] at e1 e2
            obtain ⟨rfl, -, -⟩ := e1
            obtain ⟨rfl, -, -⟩ := e2
            have hDl := HDS.out.2.1
            have hSl := HDS.out.2.2.1
            obtain ⟨b1, o1, rfl, hcd⟩ := hy1.at (k := 0) (by omega)
            obtain ⟨b2, o2, rfl, hcs⟩ := hy2.at (k := 0) (by omega)
            rw [Nat.add_zero] at hcd hcs
            have hnx : n'.pg (qd : Int) (rm : Int) = if (qd : Int) = (bl : Int) then blankP ⟨sa, sz, gc, gd, ge⟩ else n.pg (qd : Int) (rm : Int) := HPG.out.2 _ _
            rw [HDS.out.1, HDS.out.2.2.2] at hnx
            by_cases hqb : qd = bl
            · have hqI : (qd : Int) = (bl : Int) := by rw [hqb]
              rw [if_pos hqI] at hnx
              have hD0 : D[0] = 255 := by
                have e : D = ffs ge := congrArg Prod.fst hnx
                subst e
                simp [ffs]
              have hS0 : S[0] = 255 := by
                have e : S = ffs 16 := congrArg Prod.snd hnx
                subst e
                simp [ffs]
              rw [hD0] at hcd
              rw [hS0] at hcs
              have hbt : ((255 : UInt8).toNat : Int) = 255 := by rfl
              rw [hbt] at hcd hcs
              subst hqb
              clear hD0 hS0 hnx hqI
              have k8 := And.intro c38 (And.intro hcd hcs)
              have k8d : w8.drew.cell? ⟨q3, 3, none⟩ = some (.int .i64 (gd : Int)) ∧ w8.drew.cell? ⟨b1, o1, none⟩ = some (.int .u8 255) ∧ w8.drew.cell? ⟨b2, o2, none⟩ = some (.int .u8 255) := k8
              have hgeI : (0 : Int) < (ge : Int) := by omega
              have hgeN : 0 < ge := by omega
              have hnn : ((qd : Int) != (qd : Int)) = false := by simp
              have hand : bits .and .u8 255 255 = 255 := by rfl
              refine wp_region_held_drew (S := fun w' => w'.cell? ⟨q3, 3, none⟩ = some (.int .i64 (gd : Int)) ∧ w'.cell? ⟨b1, o1, none⟩ = some (.int .u8 255) ∧ w'.cell? ⟨b2, o2, none⟩ = some (.int .u8 255)) (by kernel_rfl) k8d (fun hHeld => ?_)
              refine' wpAnyH_take (i := 0) ?hiA0 (by kernel_rfl) (by kernel_rfl) (by kernel_rfl) ?hqA0 (Or.inl ⟨?hwA0, ?hyA0⟩) (by assumption) ?restA0
              case hiA0 => (simp only [List.getElem?_toArray, List.getElem?_cons_succ, List.getElem?_cons_zero]; rfl)
              case hqA0 => exact fun _ _ _ h => h
              case hwA0 => rfl
              case hyA0 => (intro w hSw; (try dsimp only at hSw); go_simp; try with_reducible rfl)
              try simp only [Act.put, List.setIfInBounds_toArray, List.set_cons_zero, List.set_cons_succ]
              refine' wpAnyH_take (i := 1) ?hiA1 (by kernel_rfl) (by kernel_rfl) (by kernel_rfl) ?hqA1 (Or.inl ⟨?hwA1, ?hyA1⟩) (by assumption) ?restA1
              case hiA1 => (simp only [List.getElem?_toArray, List.getElem?_cons_succ, List.getElem?_cons_zero]; rfl)
              case hqA1 => exact fun _ _ _ h => h
              case hwA1 => rfl
              case hyA1 => (intro w hSw; (try dsimp only at hSw); go_simp; try with_reducible rfl)
              try simp only [Act.put, List.setIfInBounds_toArray, List.set_cons_zero, List.set_cons_succ]
              refine' wpAnyH_take (i := 2) ?hiA2 (by kernel_rfl) (by kernel_rfl) (by kernel_rfl) ?hqA2 (Or.inl ⟨?hwA2, ?hyA2⟩) (by assumption) ?restA2
              case hiA2 => (simp only [List.getElem?_toArray, List.getElem?_cons_succ, List.getElem?_cons_zero]; rfl)
              case hqA2 => exact fun _ _ _ h => h
              case hwA2 => rfl
              case hyA2 => (intro w hSw; (try dsimp only at hSw); go_simp; try with_reducible rfl)
              try simp only [Act.put, List.setIfInBounds_toArray, List.set_cons_zero, List.set_cons_succ]
              refine' wpAnyH_take (i := 3) ?hiA3 (by kernel_rfl) (by kernel_rfl) (by kernel_rfl) ?hqA3 (Or.inl ⟨?hwA3, ?hyA3⟩) (by assumption) ?restA3
              case hiA3 => (simp only [List.getElem?_toArray, List.getElem?_cons_succ, List.getElem?_cons_zero]; rfl)
              case hqA3 => exact fun _ _ _ h => h
              case hwA3 => rfl
              case hyA3 => (intro w hSw; (try dsimp only at hSw); go_simp; try with_reducible rfl)
              try simp only [Act.put, List.setIfInBounds_toArray, List.set_cons_zero, List.set_cons_succ]
              refine' wpAnyH_take (i := 4) ?hiA4 (by kernel_rfl) (by kernel_rfl) (by kernel_rfl) ?hqA4 (Or.inl ⟨?hwA4, ?hyA4⟩) (by assumption) ?restA4
              case hiA4 => (simp only [List.getElem?_toArray, List.getElem?_cons_succ, List.getElem?_cons_zero]; rfl)
              case hqA4 => exact fun _ _ _ h => h
              case hwA4 => rfl
              case hyA4 => (intro w hSw; (try dsimp only at hSw); go_simp; try with_reducible rfl)
              try simp only [Act.put, List.setIfInBounds_toArray, List.set_cons_zero, List.set_cons_succ]
              refine' wpAnyH_take (i := 5) ?hiA5 (by kernel_rfl) (by kernel_rfl) (by kernel_rfl) ?hqA5 (Or.inl ⟨?hwA5, ?hyA5⟩) (by assumption) ?restA5
              case hiA5 => (simp only [List.getElem?_toArray, List.getElem?_cons_succ, List.getElem?_cons_zero]; rfl)
              case hqA5 => exact fun _ _ _ h => h
              case hwA5 => rfl
              case hyA5 => (intro w hSw; (try dsimp only at hSw); go_simp; try with_reducible rfl)
              try simp only [Act.put, List.setIfInBounds_toArray, List.set_cons_zero, List.set_cons_succ]
              refine' wpAnyH_take (i := 6) ?hiA6 (by kernel_rfl) (by kernel_rfl) (by kernel_rfl) ?hqA6 (Or.inl ⟨?hwA6, ?hyA6⟩) (by assumption) ?restA6
              case hiA6 => (simp only [List.getElem?_toArray, List.getElem?_cons_succ, List.getElem?_cons_zero]; rfl)
              case hqA6 => exact fun _ _ _ h => h
              case hwA6 => rfl
              case hyA6 => (intro w hSw; (try dsimp only at hSw); go_simp; try with_reducible rfl)
              try simp only [Act.put, List.setIfInBounds_toArray, List.set_cons_zero, List.set_cons_succ]
              refine' wpAnyH_take (i := 7) ?hiA7 (by kernel_rfl) (by kernel_rfl) (by kernel_rfl) ?hqA7 (Or.inl ⟨?hwA7, ?hyA7⟩) (by assumption) ?restA7
              case hiA7 => (simp only [List.getElem?_toArray, List.getElem?_cons_succ, List.getElem?_cons_zero]; rfl)
              case hqA7 => exact fun _ _ _ h => h
              case hwA7 => rfl
              case hyA7 => (intro w hSw; (try dsimp only at hSw); go_simp; try with_reducible rfl)
              try simp only [Act.put, List.setIfInBounds_toArray, List.set_cons_zero, List.set_cons_succ]
              refine' wpAnyH_take (i := 8) ?hiA8 (by kernel_rfl) (by kernel_rfl) (by kernel_rfl) ?hqA8 (Or.inl ⟨?hwA8, ?hyA8⟩) (by assumption) ?restA8
              case hiA8 => (simp only [List.getElem?_toArray, List.getElem?_cons_succ, List.getElem?_cons_zero]; rfl)
              case hqA8 => exact fun _ _ _ h => h
              case hwA8 => rfl
              case hyA8 => (intro w hSw; (try dsimp only at hSw); go_simp; try with_reducible rfl)
              try simp only [Act.put, List.setIfInBounds_toArray, List.set_cons_zero, List.set_cons_succ]
              refine' wpAnyH_take (i := 9) ?hiA9 (by kernel_rfl) (by kernel_rfl) (by kernel_rfl) ?hqA9 (Or.inl ⟨?hwA9, ?hyA9⟩) (by assumption) ?restA9
              case hiA9 => (simp only [List.getElem?_toArray, List.getElem?_cons_succ, List.getElem?_cons_zero]; rfl)
              case hqA9 => exact fun _ _ _ h => h
              case hwA9 => rfl
              case hyA9 => (intro w hSw; (try dsimp only at hSw); go_simp; try with_reducible rfl)
              try simp only [Act.put, List.setIfInBounds_toArray, List.set_cons_zero, List.set_cons_succ]
              refine' wpAnyH_take (i := 10) ?hiA10 (by kernel_rfl) (by kernel_rfl) (by kernel_rfl) ?hqA10 (Or.inl ⟨?hwA10, ?hyA10⟩) (by assumption) ?restA10
              case hiA10 => (simp only [List.getElem?_toArray, List.getElem?_cons_succ, List.getElem?_cons_zero]; rfl)
              case hqA10 => exact fun _ _ _ h => h
              case hwA10 => rfl
              case hyA10 => (intro w hSw; (try dsimp only at hSw); go_simp; try with_reducible rfl)
              try simp only [Act.put, List.setIfInBounds_toArray, List.set_cons_zero, List.set_cons_succ]
              refine' wpAnyH_take (i := 11) ?hiA11 (by kernel_rfl) (by kernel_rfl) (by kernel_rfl) ?hqA11 (Or.inl ⟨?hwA11, ?hyA11⟩) (by assumption) ?restA11
              case hiA11 => (simp only [List.getElem?_toArray, List.getElem?_cons_succ, List.getElem?_cons_zero]; rfl)
              case hqA11 => exact fun _ _ _ h => h
              case hwA11 => rfl
              case hyA11 => (intro w hSw; (try dsimp only at hSw); go_simp; try with_reducible rfl)
              try simp only [Act.put, List.setIfInBounds_toArray, List.set_cons_zero, List.set_cons_succ]
              refine' wpAnyH_take (i := 12) ?hiA12 (by kernel_rfl) (by kernel_rfl) (by kernel_rfl) ?hqA12 (Or.inl ⟨?hwA12, ?hyA12⟩) (by assumption) ?restA12
              case hiA12 => (simp only [List.getElem?_toArray, List.getElem?_cons_succ, List.getElem?_cons_zero]; rfl)
              case hqA12 => exact fun _ _ _ h => h
              case hwA12 => rfl
              case hyA12 => (intro w hSw; (try dsimp only at hSw); go_simp; try with_reducible rfl)
              try simp only [Act.put, List.setIfInBounds_toArray, List.set_cons_zero, List.set_cons_succ]
              refine' wpAnyH_take (i := 13) ?hiA13 (by kernel_rfl) (by kernel_rfl) (by kernel_rfl) ?hqA13 (Or.inl ⟨?hwA13, ?hyA13⟩) (by assumption) ?restA13
              case hiA13 => (simp only [List.getElem?_toArray, List.getElem?_cons_succ, List.getElem?_cons_zero]; rfl)
              case hqA13 => exact fun _ _ _ h => h
              case hwA13 => rfl
              case hyA13 => (intro w hSw; (try dsimp only at hSw); go_simp; try with_reducible rfl)
              try simp only [Act.put, List.setIfInBounds_toArray, List.set_cons_zero, List.set_cons_succ]
              refine' wpAnyH_take (i := 14) ?hiA14 (by kernel_rfl) (by kernel_rfl) (by kernel_rfl) ?hqA14 (Or.inl ⟨?hwA14, ?hyA14⟩) (by assumption) ?restA14
              case hiA14 => (simp only [List.getElem?_toArray, List.getElem?_cons_succ, List.getElem?_cons_zero]; rfl)
              case hqA14 => exact fun _ _ _ h => h
              case hwA14 => rfl
              case hyA14 => (intro w hSw; (try dsimp only at hSw); go_simp; try with_reducible rfl)
              try simp only [Act.put, List.setIfInBounds_toArray, List.set_cons_zero, List.set_cons_succ]
              refine' wpAnyH_take (i := 15) ?hiA15 (by kernel_rfl) (by kernel_rfl) (by kernel_rfl) ?hqA15 (Or.inl ⟨?hwA15, ?hyA15⟩) (by assumption) ?restA15
              case hiA15 => (simp only [List.getElem?_toArray, List.getElem?_cons_succ, List.getElem?_cons_zero]; rfl)
              case hqA15 => exact fun _ _ _ h => h
              case hwA15 => rfl
              case hyA15 => (intro w hSw; (try dsimp only at hSw); go_simp; try with_reducible rfl)
              try simp only [Act.put, List.setIfInBounds_toArray, List.set_cons_zero, List.set_cons_succ]
              refine' wpAnyH_take (i := 16) ?hiA16 (by kernel_rfl) (by kernel_rfl) (by kernel_rfl) ?hqA16 (Or.inl ⟨?hwA16, ?hyA16⟩) (by assumption) ?restA16
              case hiA16 => (simp only [List.getElem?_toArray, List.getElem?_cons_succ, List.getElem?_cons_zero]; rfl)
              case hqA16 => exact fun _ _ _ h => h
              case hwA16 => rfl
              case hyA16 => (intro w hSw; (try dsimp only at hSw); go_simp; try with_reducible rfl)
              try simp only [Act.put, List.setIfInBounds_toArray, List.set_cons_zero, List.set_cons_succ]
              refine' wpAnyH_take (i := 17) ?hiA17 (by kernel_rfl) (by kernel_rfl) (by kernel_rfl) ?hqA17 (Or.inl ⟨?hwA17, ?hyA17⟩) (by assumption) ?restA17
              case hiA17 => (simp only [List.getElem?_toArray, List.getElem?_cons_succ, List.getElem?_cons_zero]; rfl)
              case hqA17 => exact fun _ _ _ h => h
              case hwA17 => rfl
              case hyA17 => (intro w hSw; (try dsimp only at hSw); go_simp; try with_reducible rfl)
              try simp only [Act.put, List.setIfInBounds_toArray, List.set_cons_zero, List.set_cons_succ]
              refine' wpAnyH_take (i := 18) ?hiA18 (by kernel_rfl) (by kernel_rfl) (by kernel_rfl) ?hqA18 (Or.inl ⟨?hwA18, ?hyA18⟩) (by assumption) ?restA18
              case hiA18 => (simp only [List.getElem?_toArray, List.getElem?_cons_succ, List.getElem?_cons_zero]; rfl)
              case hqA18 => exact fun _ _ _ h => h
              case hwA18 => rfl
              case hyA18 => (intro w hSw; (try dsimp only at hSw); go_simp; try with_reducible rfl)
              try simp only [Act.put, List.setIfInBounds_toArray, List.set_cons_zero, List.set_cons_succ]
              refine' wpAnyH_take (i := 19) ?hiA19 (by kernel_rfl) (by kernel_rfl) (by kernel_rfl) ?hqA19 (Or.inl ⟨?hwA19, ?hyA19⟩) (by assumption) ?restA19
              case hiA19 => (simp only [List.getElem?_toArray, List.getElem?_cons_succ, List.getElem?_cons_zero]; rfl)
              case hqA19 => exact fun _ _ _ h => h
              case hwA19 => rfl
              case hyA19 => (intro w hSw; (try dsimp only at hSw); go_simp; try with_reducible rfl)
              try simp only [Act.put, List.setIfInBounds_toArray, List.set_cons_zero, List.set_cons_succ]
              refine' wpAnyH_take (i := 20) ?hiA20 (by kernel_rfl) (by kernel_rfl) (by kernel_rfl) ?hqA20 (Or.inl ⟨?hwA20, ?hyA20⟩) (by assumption) ?restA20
              case hiA20 => (simp only [List.getElem?_toArray, List.getElem?_cons_succ, List.getElem?_cons_zero]; rfl)
              case hqA20 => exact fun _ _ _ h => h
              case hwA20 => rfl
              case hyA20 => (intro w hSw; (try dsimp only at hSw); go_simp; try with_reducible rfl)
              try simp only [Act.put, List.setIfInBounds_toArray, List.set_cons_zero, List.set_cons_succ]
              refine' wpAnyH_take (i := 21) ?hiA21 (by kernel_rfl) (by kernel_rfl) (by kernel_rfl) ?hqA21 (Or.inl ⟨?hwA21, ?hyA21⟩) (by assumption) ?restA21
              case hiA21 => (simp only [List.getElem?_toArray, List.getElem?_cons_succ, List.getElem?_cons_zero]; rfl)
              case hqA21 => exact fun _ _ _ h => h
              case hwA21 => rfl
              case hyA21 => (intro w hSw; (try dsimp only at hSw); go_simp; try with_reducible rfl)
              try simp only [Act.put, List.setIfInBounds_toArray, List.set_cons_zero, List.set_cons_succ]
              refine' wpAnyH_take (i := 22) ?hiA22 (by kernel_rfl) (by kernel_rfl) (by kernel_rfl) ?hqA22 (Or.inl ⟨?hwA22, ?hyA22⟩) (by assumption) ?restA22
              case hiA22 => (simp only [List.getElem?_toArray, List.getElem?_cons_succ, List.getElem?_cons_zero]; rfl)
              case hqA22 => exact fun _ _ _ h => h
              case hwA22 => rfl
              case hyA22 => (intro w hSw; (try dsimp only at hSw); go_simp; try with_reducible rfl)
              try simp only [Act.put, List.setIfInBounds_toArray, List.set_cons_zero, List.set_cons_succ]
              refine' wpAnyH_take (i := 23) ?hiA23 (by kernel_rfl) (by kernel_rfl) (by kernel_rfl) ?hqA23 (Or.inl ⟨?hwA23, ?hyA23⟩) (by assumption) ?restA23
              case hiA23 => (simp only [List.getElem?_toArray, List.getElem?_cons_succ, List.getElem?_cons_zero]; rfl)
              case hqA23 => exact fun _ _ _ h => h
              case hwA23 => rfl
              case hyA23 => (intro w hSw; (try dsimp only at hSw); go_simp; try with_reducible rfl)
              try simp only [Act.put, List.setIfInBounds_toArray, List.set_cons_zero, List.set_cons_succ]
              refine' wpAnyH_take (i := 24) ?hiA24 (by kernel_rfl) (by kernel_rfl) (by kernel_rfl) ?hqA24 (Or.inr ⟨?hwA24, rfl⟩) (by assumption) ?restA24
              case hiA24 => (simp only [List.getElem?_toArray, List.getElem?_cons_succ, List.getElem?_cons_zero]; rfl)
              case hqA24 => exact fun _ _ _ h => h
              case hwA24 => rfl
              try simp only [Act.put, List.setIfInBounds_toArray, List.set_cons_zero, List.set_cons_succ]
              refine' wpAnyH_take (i := 25) ?hiA25 (by kernel_rfl) (by kernel_rfl) (by kernel_rfl) ?hqA25 (Or.inr ⟨?hwA25, rfl⟩) (by assumption) ?restA25
              case hiA25 => (simp only [List.getElem?_toArray, List.getElem?_cons_succ, List.getElem?_cons_zero]; rfl)
              case hqA25 => exact fun _ _ _ h => h
              case hwA25 => rfl
              try simp only [Act.put, List.setIfInBounds_toArray, List.set_cons_zero, List.set_cons_succ]
              refine' wpAnyH_take (i := 26) ?hiA26 (by kernel_rfl) (by kernel_rfl) (by kernel_rfl) ?hqA26 (Or.inr ⟨?hwA26, rfl⟩) (by assumption) ?restA26
              case hiA26 => (simp only [List.getElem?_toArray, List.getElem?_cons_succ, List.getElem?_cons_zero]; rfl)
              case hqA26 => exact fun _ _ _ h => h
              case hwA26 => rfl
              try simp only [Act.put, List.setIfInBounds_toArray, List.set_cons_zero, List.set_cons_succ]
              refine' wpAnyH_take (i := 27) ?hiA27 (by kernel_rfl) (by kernel_rfl) (by kernel_rfl) ?hqA27 (Or.inr ⟨?hwA27, rfl⟩) (by assumption) ?restA27
              case hiA27 => (simp only [List.getElem?_toArray, List.getElem?_cons_succ, List.getElem?_cons_zero]; rfl)
              case hqA27 => exact fun _ _ _ h => h
              case hwA27 => rfl
              try simp only [Act.put, List.setIfInBounds_toArray, List.set_cons_zero, List.set_cons_succ]
              refine' wpAnyH_take (i := 28) ?hiA28 (by kernel_rfl) (by kernel_rfl) (by kernel_rfl) ?hqA28 (Or.inr ⟨?hwA28, rfl⟩) (by assumption) ?restA28
              case hiA28 => (simp only [List.getElem?_toArray, List.getElem?_cons_succ, List.getElem?_cons_zero]; rfl)
              case hqA28 => exact fun _ _ _ h => h
              case hwA28 => rfl
              try simp only [Act.put, List.setIfInBounds_toArray, List.set_cons_zero, List.set_cons_succ]
              refine' wpAnyH_take (i := 29) ?hiA29 (by kernel_rfl) (by kernel_rfl) (by kernel_rfl) ?hqA29 (Or.inr ⟨?hwA29, rfl⟩) (by assumption) ?restA29
              case hiA29 => (simp only [List.getElem?_toArray, List.getElem?_cons_succ, List.getElem?_cons_zero]; rfl)
              case hqA29 => exact fun _ _ _ h => h
              case hwA29 => rfl
              try simp only [Act.put, List.setIfInBounds_toArray, List.set_cons_zero, List.set_cons_succ]
              refine' wpAnyH_take (i := 30) ?hiA30 (by kernel_rfl) (by kernel_rfl) (by kernel_rfl) ?hqA30 (Or.inr ⟨?hwA30, rfl⟩) (by assumption) ?restA30
              case hiA30 => (simp only [List.getElem?_toArray, List.getElem?_cons_succ, List.getElem?_cons_zero]; rfl)
              case hqA30 => exact fun _ _ _ h => h
              case hwA30 => rfl
              try simp only [Act.put, List.setIfInBounds_toArray, List.set_cons_zero, List.set_cons_succ]
              refine' wpAnyH_take (i := 31) ?hiA31 (by kernel_rfl) (by kernel_rfl) (by kernel_rfl) ?hqA31 (Or.inr ⟨?hwA31, rfl⟩) (by assumption) ?restA31
              case hiA31 => (simp only [List.getElem?_toArray, List.getElem?_cons_succ, List.getElem?_cons_zero]; rfl)
              case hqA31 => exact fun _ _ _ h => h
              case hwA31 => rfl
              try simp only [Act.put, List.setIfInBounds_toArray, List.set_cons_zero, List.set_cons_succ]
              refine' wpAnyH_take (i := 32) ?hiA32 (by kernel_rfl) (by kernel_rfl) (by kernel_rfl) ?hqA32 (Or.inr ⟨?hwA32, rfl⟩) (by assumption) ?restA32
              case hiA32 => (simp only [List.getElem?_toArray, List.getElem?_cons_succ, List.getElem?_cons_zero]; rfl)
              case hqA32 => exact fun _ _ _ h => h
              case hwA32 => rfl
              try simp only [Act.put, List.setIfInBounds_toArray, List.set_cons_zero, List.set_cons_succ]
              refine' wpAnyH_take (i := 33) ?hiA33 (by kernel_rfl) (by kernel_rfl) (by kernel_rfl) ?hqA33 (Or.inr ⟨?hwA33, rfl⟩) (by assumption) ?restA33
              case hiA33 => (simp only [List.getElem?_toArray, List.getElem?_cons_succ, List.getElem?_cons_zero]; rfl)
              case hqA33 => exact fun _ _ _ h => h
              case hwA33 => rfl
              try simp only [Act.put, List.setIfInBounds_toArray, List.set_cons_zero, List.set_cons_succ]
              refine' wpAnyH_take (i := 34) ?hiA34 (by kernel_rfl) (by kernel_rfl) (by kernel_rfl) ?hqA34 (Or.inr ⟨?hwA34, rfl⟩) (by assumption) ?restA34
              case hiA34 => (simp only [List.getElem?_toArray, List.getElem?_cons_succ, List.getElem?_cons_zero]; rfl)
              case hqA34 => exact fun _ _ _ h => h
              case hwA34 => rfl
              try simp only [Act.put, List.setIfInBounds_toArray, List.set_cons_zero, List.set_cons_succ]
              refine' wpAnyH_take (i := 35) ?hiA35 (by kernel_rfl) (by kernel_rfl) (by kernel_rfl) ?hqA35 (Or.inr ⟨?hwA35, rfl⟩) (by assumption) ?restA35
              case hiA35 => (simp only [List.getElem?_toArray, List.getElem?_cons_succ, List.getElem?_cons_zero]; rfl)
              case hqA35 => exact fun _ _ _ h => h
              case hwA35 => rfl
              try simp only [Act.put, List.setIfInBounds_toArray, List.set_cons_zero, List.set_cons_succ]
              refine' wpAnyH_take (i := 36) ?hiA36 (by kernel_rfl) (by kernel_rfl) (by kernel_rfl) ?hqA36 (Or.inr ⟨?hwA36, rfl⟩) (by assumption) ?restA36
              case hiA36 => (simp only [List.getElem?_toArray, List.getElem?_cons_succ, List.getElem?_cons_zero]; rfl)
              case hqA36 => exact fun _ _ _ h => h
              case hwA36 => rfl
              try simp only [Act.put, List.setIfInBounds_toArray, List.set_cons_zero, List.set_cons_succ]
              refine' wpAnyH_take (i := 37) ?hiA37 (by kernel_rfl) (by kernel_rfl) (by kernel_rfl) ?hqA37 (Or.inr ⟨?hwA37, rfl⟩) (by assumption) ?restA37
              case hiA37 => (simp only [List.getElem?_toArray, List.getElem?_cons_succ, List.getElem?_cons_zero]; rfl)
              case hqA37 => exact fun _ _ _ h => h
              case hwA37 => rfl
              try simp only [Act.put, List.setIfInBounds_toArray, List.set_cons_zero, List.set_cons_succ]
              refine' wpAnyH_take (i := 38) ?hiA38 (by kernel_rfl) (by kernel_rfl) (by kernel_rfl) ?hqA38 (Or.inr ⟨?hwA38, rfl⟩) (by assumption) ?restA38
              case hiA38 => (simp only [List.getElem?_toArray, List.getElem?_cons_succ, List.getElem?_cons_zero]; rfl)
              case hqA38 => exact fun _ _ _ h => h
              case hwA38 => rfl
              try simp only [Act.put, List.setIfInBounds_toArray, List.set_cons_zero, List.set_cons_succ]
              refine' wpAnyH_take (i := 39) ?hiA39 (by kernel_rfl) (by kernel_rfl) (by kernel_rfl) ?hqA39 (Or.inl ⟨?hwA39, ?hyA39⟩) (by assumption) ?restA39
              case hiA39 => (simp only [List.getElem?_toArray, List.getElem?_cons_succ, List.getElem?_cons_zero]; rfl)
              case hqA39 => exact fun _ _ _ h => h
              case hwA39 => rfl
              case hyA39 => (intro w hSw; (try dsimp only at hSw); go_simp; try with_reducible rfl)
              try simp only [Act.put, List.setIfInBounds_toArray, List.set_cons_zero, List.set_cons_succ]
              refine' wpAnyH_take (i := 40) ?hiA40 (by kernel_rfl) (by kernel_rfl) (by kernel_rfl) ?hqA40 (Or.inl ⟨?hwA40, ?hyA40⟩) (by assumption) ?restA40
              case hiA40 => (simp only [List.getElem?_toArray, List.getElem?_cons_succ, List.getElem?_cons_zero]; rfl)
              case hqA40 => exact fun _ _ _ h => h
              case hwA40 => rfl
              case hyA40 => (intro w hSw; (try dsimp only at hSw); go_simp; try with_reducible rfl)
              try simp only [Act.put, List.setIfInBounds_toArray, List.set_cons_zero, List.set_cons_succ]
              refine wpAnyH_done (by kernel_rfl) ?_ _
              go_wp2_with fail
              go_roundw
              case rel => exact ⟨j + 1, by omega, by go_num, HT8.out.below (Below.refl _ _).drew⟩
              case measure => simp [intOf]; omega
            · have hqI : ¬ (qd : Int) = (bl : Int) := fun h => hqb (Int.ofNat.inj h)
              rw [if_neg hqI] at hnx
              obtain rfl : D = X j := congrArg Prod.fst hnx
              obtain rfl : S = spL j := congrArg Prod.snd hnx
              have hS0 : (((spL j)[0]'(by have := HDS.out.2.2.1; omega)).toNat : Int) = (j : Int) := by
                have e : (spL j)[0]'(by have := HDS.out.2.2.1; omega) = UInt8.ofNat j := by simp [spL, fitL]
                rw [e, UInt8.toNat_ofNat']
                omega
              rw [hS0] at hcs
              have hwr : IntKind.u8.wrap (j : Int) = (j : Int) := by rw [IntKind.wrap_u8']; omega
              obtain ⟨Aw', cw', ew', hat'⟩ := HT8.out.wt.at
              have hwsl : ws.length = i := by rw [HWS.out, List.length_map, List.length_range]
              simp only [Value.slice.injEq] at ew'
              obtain ⟨rfl, -, -⟩ := ew'
              obtain ⟨bw, ow, qw, cq, rfl, hcw, hyw, -, -⟩ := hat' j (by omega)
              have hwj : ws[j]'(by omega) = X j := by simp [HWS.out]
              rw [hwj] at hcw hyw
              rw [HX.out.1 j] at hcw
              have hne1 : ((qd : Int) != (bl : Int)) = true := by rw [bne_iff_ne]; exact hqI
              have hne2 : ((qd : Int) == (bl : Int)) = false := by rw [beq_eq_false_iff_ne]; exact hqI
              have hjj : ((j : Int) != (j : Int)) = false := by simp
              have hj0 : (0 : Int) ≤ (j : Int) := by omega
              have hgeI : (0 : Int) < (ge : Int) := by omega
              have hgeN : 0 < ge := by omega
              have HB1 := Lib.hid hy1
              have HB2 := Lib.hid hyw
              have HBL := Lib.hid (HX.out.1 j)
              have HBT := Lib.hid (fun (W : World) (h1 : Byts W (some ⟨b1, o1, none⟩) (X j)) (h2 : Byts W (some ⟨qw, 0, none⟩) (X j)) => help_bytes (some ⟨b1, o1, none⟩) ge c1 (X j) (some ⟨qw, 0, none⟩) ge cq (X j) W h1 HBL.out.symm h2 HBL.out.symm)
              have k8 := And.intro c38 (And.intro hcs hcw)
              have k8d : w8.drew.cell? ⟨q3, 3, none⟩ = some (.int .i64 (gd : Int)) ∧ w8.drew.cell? ⟨b2, o2, none⟩ = some (.int .u8 (j : Int)) ∧ w8.drew.cell? ⟨bw, ow + j, none⟩ = some (.slice (some ⟨qw, 0, none⟩) ge cq) := k8
              clear hS0 hnx hwj hyw hy2 hcd hat'
              refine wp_region_held_drew (S := fun w' => w'.cell? ⟨q3, 3, none⟩ = some (.int .i64 (gd : Int)) ∧ w'.cell? ⟨b2, o2, none⟩ = some (.int .u8 (j : Int)) ∧ w'.cell? ⟨bw, ow + j, none⟩ = some (.slice (some ⟨qw, 0, none⟩) ge cq)) (by kernel_rfl) k8d (fun hHeld => ?_)
              refine' wpAnyH_take (i := 0) ?hiB0 (by kernel_rfl) (by kernel_rfl) (by kernel_rfl) ?hqB0 (Or.inl ⟨?hwB0, ?hyB0⟩) (by assumption) ?restB0
              case hiB0 => (simp only [List.getElem?_toArray, List.getElem?_cons_succ, List.getElem?_cons_zero]; rfl)
              case hqB0 => exact fun _ _ _ h => h
              case hwB0 => rfl
              case hyB0 => (intro w hSw; (try dsimp only at hSw); go_simp; try with_reducible rfl)
              try simp only [Act.put, List.setIfInBounds_toArray, List.set_cons_zero, List.set_cons_succ]
              refine' wpAnyH_take (i := 1) ?hiB1 (by kernel_rfl) (by kernel_rfl) (by kernel_rfl) ?hqB1 (Or.inl ⟨?hwB1, ?hyB1⟩) (by assumption) ?restB1
              case hiB1 => (simp only [List.getElem?_toArray, List.getElem?_cons_succ, List.getElem?_cons_zero]; rfl)
              case hqB1 => exact fun _ _ _ h => h
              case hwB1 => rfl
              case hyB1 => (intro w hSw; (try dsimp only at hSw); go_simp; try with_reducible rfl)
              try simp only [Act.put, List.setIfInBounds_toArray, List.set_cons_zero, List.set_cons_succ]
              refine' wpAnyH_take (i := 2) ?hiB2 (by kernel_rfl) (by kernel_rfl) (by kernel_rfl) ?hqB2 (Or.inl ⟨?hwB2, ?hyB2⟩) (by assumption) ?restB2
              case hiB2 => (simp only [List.getElem?_toArray, List.getElem?_cons_succ, List.getElem?_cons_zero]; rfl)
              case hqB2 => exact fun _ _ _ h => h
              case hwB2 => rfl
              case hyB2 => (intro w hSw; (try dsimp only at hSw); go_simp; try with_reducible rfl)
              try simp only [Act.put, List.setIfInBounds_toArray, List.set_cons_zero, List.set_cons_succ]
              refine' wpAnyH_take (i := 3) ?hiB3 (by kernel_rfl) (by kernel_rfl) (by kernel_rfl) ?hqB3 (Or.inl ⟨?hwB3, ?hyB3⟩) (by assumption) ?restB3
              case hiB3 => (simp only [List.getElem?_toArray, List.getElem?_cons_succ, List.getElem?_cons_zero]; rfl)
              case hqB3 => exact fun _ _ _ h => h
              case hwB3 => rfl
              case hyB3 => (intro w hSw; (try dsimp only at hSw); go_simp; try with_reducible rfl)
              try simp only [Act.put, List.setIfInBounds_toArray, List.set_cons_zero, List.set_cons_succ]
              refine' wpAnyH_take (i := 4) ?hiB4 (by kernel_rfl) (by kernel_rfl) (by kernel_rfl) ?hqB4 (Or.inl ⟨?hwB4, ?hyB4⟩) (by assumption) ?restB4
              case hiB4 => (simp only [List.getElem?_toArray, List.getElem?_cons_succ, List.getElem?_cons_zero]; rfl)
              case hqB4 => exact fun _ _ _ h => h
              case hwB4 => rfl
              case hyB4 => (intro w hSw; (try dsimp only at hSw); go_simp; try with_reducible rfl)
              try simp only [Act.put, List.setIfInBounds_toArray, List.set_cons_zero, List.set_cons_succ]
              refine' wpAnyH_take (i := 5) ?hiB5 (by kernel_rfl) (by kernel_rfl) (by kernel_rfl) ?hqB5 (Or.inl ⟨?hwB5, ?hyB5⟩) (by assumption) ?restB5
              case hiB5 => (simp only [List.getElem?_toArray, List.getElem?_cons_succ, List.getElem?_cons_zero]; rfl)
              case hqB5 => exact fun _ _ _ h => h
              case hwB5 => rfl
              case hyB5 => (intro w hSw; (try dsimp only at hSw); go_simp; try with_reducible rfl)
              try simp only [Act.put, List.setIfInBounds_toArray, List.set_cons_zero, List.set_cons_succ]
              refine' wpAnyH_take (i := 6) ?hiB6 (by kernel_rfl) (by kernel_rfl) (by kernel_rfl) ?hqB6 (Or.inl ⟨?hwB6, ?hyB6⟩) (by assumption) ?restB6
              case hiB6 => (simp only [List.getElem?_toArray, List.getElem?_cons_succ, List.getElem?_cons_zero]; rfl)
              case hqB6 => exact fun _ _ _ h => h
              case hwB6 => rfl
              case hyB6 => (intro w hSw; (try dsimp only at hSw); go_simp; try with_reducible rfl)
              try simp only [Act.put, List.setIfInBounds_toArray, List.set_cons_zero, List.set_cons_succ]
              refine' wpAnyH_take (i := 7) ?hiB7 (by kernel_rfl) (by kernel_rfl) (by kernel_rfl) ?hqB7 (Or.inr ⟨?hwB7, rfl⟩) (by assumption) ?restB7
              case hiB7 => (simp only [List.getElem?_toArray, List.getElem?_cons_succ, List.getElem?_cons_zero]; rfl)
              case hqB7 => exact fun _ _ _ h => h
              case hwB7 => rfl
              try simp only [Act.put, List.setIfInBounds_toArray, List.set_cons_zero, List.set_cons_succ]
              refine' wpAnyH_take (i := 8) ?hiB8 (by kernel_rfl) (by kernel_rfl) (by kernel_rfl) ?hqB8 (Or.inr ⟨?hwB8, rfl⟩) (by assumption) ?restB8
              case hiB8 => (simp only [List.getElem?_toArray, List.getElem?_cons_succ, List.getElem?_cons_zero]; rfl)
              case hqB8 => exact fun _ _ _ h => h
              case hwB8 => rfl
              try simp only [Act.put, List.setIfInBounds_toArray, List.set_cons_zero, List.set_cons_succ]
              refine' wpAnyH_take (i := 9) ?hiB9 (by kernel_rfl) (by kernel_rfl) (by kernel_rfl) ?hqB9 (Or.inr ⟨?hwB9, rfl⟩) (by assumption) ?restB9
              case hiB9 => (simp only [List.getElem?_toArray, List.getElem?_cons_succ, List.getElem?_cons_zero]; rfl)
              case hqB9 => exact fun _ _ _ h => h
              case hwB9 => rfl
              try simp only [Act.put, List.setIfInBounds_toArray, List.set_cons_zero, List.set_cons_succ]
              refine' wpAnyH_take (i := 10) ?hiB10 (by kernel_rfl) (by kernel_rfl) (by kernel_rfl) ?hqB10 (Or.inr ⟨?hwB10, rfl⟩) (by assumption) ?restB10
              case hiB10 => (simp only [List.getElem?_toArray, List.getElem?_cons_succ, List.getElem?_cons_zero]; rfl)
              case hqB10 => exact fun _ _ _ h => h
              case hwB10 => rfl
              try simp only [Act.put, List.setIfInBounds_toArray, List.set_cons_zero, List.set_cons_succ]
              refine' wpAnyH_take (i := 11) ?hiB11 (by kernel_rfl) (by kernel_rfl) (by kernel_rfl) ?hqB11 (Or.inr ⟨?hwB11, rfl⟩) (by assumption) ?restB11
              case hiB11 => (simp only [List.getElem?_toArray, List.getElem?_cons_succ, List.getElem?_cons_zero]; rfl)
              case hqB11 => exact fun _ _ _ h => h
              case hwB11 => rfl
              try simp only [Act.put, List.setIfInBounds_toArray, List.set_cons_zero, List.set_cons_succ]
              refine' wpAnyH_take (i := 12) ?hiB12 (by kernel_rfl) (by kernel_rfl) (by kernel_rfl) ?hqB12 (Or.inr ⟨?hwB12, rfl⟩) (by assumption) ?restB12
              case hiB12 => (simp only [List.getElem?_toArray, List.getElem?_cons_succ, List.getElem?_cons_zero]; rfl)
              case hqB12 => exact fun _ _ _ h => h
              case hwB12 => rfl
              try simp only [Act.put, List.setIfInBounds_toArray, List.set_cons_zero, List.set_cons_succ]
              refine' wpAnyH_take (i := 13) ?hiB13 (by kernel_rfl) (by kernel_rfl) (by kernel_rfl) ?hqB13 (Or.inr ⟨?hwB13, rfl⟩) (by assumption) ?restB13
              case hiB13 => (simp only [List.getElem?_toArray, List.getElem?_cons_succ, List.getElem?_cons_zero]; rfl)
              case hqB13 => exact fun _ _ _ h => h
              case hwB13 => rfl
              try simp only [Act.put, List.setIfInBounds_toArray, List.set_cons_zero, List.set_cons_succ]
              refine' wpAnyH_take (i := 14) ?hiB14 (by kernel_rfl) (by kernel_rfl) (by kernel_rfl) ?hqB14 (Or.inr ⟨?hwB14, rfl⟩) (by assumption) ?restB14
              case hiB14 => (simp only [List.getElem?_toArray, List.getElem?_cons_succ, List.getElem?_cons_zero]; rfl)
              case hqB14 => exact fun _ _ _ h => h
              case hwB14 => rfl
              try simp only [Act.put, List.setIfInBounds_toArray, List.set_cons_zero, List.set_cons_succ]
              refine' wpAnyH_take (i := 15) ?hiB15 (by kernel_rfl) (by kernel_rfl) (by kernel_rfl) ?hqB15 (Or.inl ⟨?hwB15, ?hyB15⟩) (by assumption) ?restB15
              case hiB15 => (simp only [List.getElem?_toArray, List.getElem?_cons_succ, List.getElem?_cons_zero]; rfl)
              case hqB15 => exact fun _ _ _ h => h
              case hwB15 => rfl
              case hyB15 => (intro w hSw; (try dsimp only at hSw); go_simp; try with_reducible rfl)
              try simp only [Act.put, List.setIfInBounds_toArray, List.set_cons_zero, List.set_cons_succ]
              refine' wpAnyH_take (i := 16) ?hiB16 (by kernel_rfl) (by kernel_rfl) (by kernel_rfl) ?hqB16 (Or.inl ⟨?hwB16, ?hyB16⟩) (by assumption) ?restB16
              case hiB16 => (simp only [List.getElem?_toArray, List.getElem?_cons_succ, List.getElem?_cons_zero]; rfl)
              case hqB16 => exact fun _ _ _ h => h
              case hwB16 => rfl
              case hyB16 => (intro w hSw; (try dsimp only at hSw); go_simp; try with_reducible rfl)
              try simp only [Act.put, List.setIfInBounds_toArray, List.set_cons_zero, List.set_cons_succ]
              refine' wpAnyH_take (i := 17) ?hiB17 (by kernel_rfl) (by kernel_rfl) (by kernel_rfl) ?hqB17 (Or.inl ⟨?hwB17, ?hyB17⟩) (by assumption) ?restB17
              case hiB17 => (simp only [List.getElem?_toArray, List.getElem?_cons_succ, List.getElem?_cons_zero]; rfl)
              case hqB17 => exact fun _ _ _ h => h
              case hwB17 => rfl
              case hyB17 => (intro w hSw; (try dsimp only at hSw); go_simp; try with_reducible rfl)
              try simp only [Act.put, List.setIfInBounds_toArray, List.set_cons_zero, List.set_cons_succ]
              refine' wpAnyH_take (i := 18) ?hiB18 (by kernel_rfl) (by kernel_rfl) (by kernel_rfl) ?hqB18 (Or.inl ⟨?hwB18, ?hyB18⟩) (by assumption) ?restB18
              case hiB18 => (simp only [List.getElem?_toArray, List.getElem?_cons_succ, List.getElem?_cons_zero]; rfl)
              case hqB18 => exact fun _ _ _ h => h
              case hwB18 => rfl
              case hyB18 => (intro w hSw; (try dsimp only at hSw); go_simp; try with_reducible rfl)
              try simp only [Act.put, List.setIfInBounds_toArray, List.set_cons_zero, List.set_cons_succ]
              refine' wpAnyH_take (i := 19) ?hiB19 (by kernel_rfl) (by kernel_rfl) (by kernel_rfl) ?hqB19 (Or.inl ⟨?hwB19, ?hyB19⟩) (by assumption) ?restB19
              case hiB19 => (simp only [List.getElem?_toArray, List.getElem?_cons_succ, List.getElem?_cons_zero]; rfl)
              case hqB19 => exact fun _ _ _ h => h
              case hwB19 => rfl
              case hyB19 => (intro w hSw; (try dsimp only at hSw); go_simp; try with_reducible rfl)
              try simp only [Act.put, List.setIfInBounds_toArray, List.set_cons_zero, List.set_cons_succ]
              refine' wpAnyH_take (i := 20) ?hiB20 (by kernel_rfl) (by kernel_rfl) (by kernel_rfl) ?hqB20 (Or.inl ⟨?hwB20, ?hyB20⟩) (by assumption) ?restB20
              case hiB20 => (simp only [List.getElem?_toArray, List.getElem?_cons_succ, List.getElem?_cons_zero]; rfl)
              case hqB20 => exact fun _ _ _ h => h
              case hwB20 => rfl
              case hyB20 => (intro w hSw; (try dsimp only at hSw); go_simp; try with_reducible rfl)
              try simp only [Act.put, List.setIfInBounds_toArray, List.set_cons_zero, List.set_cons_succ]
              refine' wpAnyH_take (i := 21) ?hiB21 (by kernel_rfl) (by kernel_rfl) (by kernel_rfl) ?hqB21 (Or.inl ⟨?hwB21, ?hyB21⟩) (by assumption) ?restB21
              case hiB21 => (simp only [List.getElem?_toArray, List.getElem?_cons_succ, List.getElem?_cons_zero]; rfl)
              case hqB21 => exact fun _ _ _ h => h
              case hwB21 => rfl
              case hyB21 => (intro w hSw; (try dsimp only at hSw); go_simp; try with_reducible rfl)
              try simp only [Act.put, List.setIfInBounds_toArray, List.set_cons_zero, List.set_cons_succ]
              refine' wpAnyH_take (i := 22) ?hiB22 (by kernel_rfl) (by kernel_rfl) (by kernel_rfl) ?hqB22 (Or.inl ⟨?hwB22, ?hyB22⟩) (by assumption) ?restB22
              case hiB22 => (simp only [List.getElem?_toArray, List.getElem?_cons_succ, List.getElem?_cons_zero]; rfl)
              case hqB22 => exact fun _ _ _ h => h
              case hwB22 => rfl
              case hyB22 => (intro w hSw; (try dsimp only at hSw); go_simp; try with_reducible rfl)
              try simp only [Act.put, List.setIfInBounds_toArray, List.set_cons_zero, List.set_cons_succ]
              refine' wpAnyH_take (i := 23) ?hiB23 (by kernel_rfl) (by kernel_rfl) (by kernel_rfl) ?hqB23 (Or.inl ⟨?hwB23, ?hyB23⟩) (by assumption) ?restB23
              case hiB23 => (simp only [List.getElem?_toArray, List.getElem?_cons_succ, List.getElem?_cons_zero]; rfl)
              case hqB23 => exact fun _ _ _ h => h
              case hwB23 => rfl
              case hyB23 => (intro w hSw; (try dsimp only at hSw); go_simp; try with_reducible rfl)
              try simp only [Act.put, List.setIfInBounds_toArray, List.set_cons_zero, List.set_cons_succ]
              refine' wpAnyH_take (i := 24) ?hiB24 (by kernel_rfl) (by kernel_rfl) (by kernel_rfl) ?hqB24 (Or.inl ⟨?hwB24, ?hyB24⟩) (by assumption) ?restB24
              case hiB24 => (simp only [List.getElem?_toArray, List.getElem?_cons_succ, List.getElem?_cons_zero]; rfl)
              case hqB24 => exact fun _ _ _ h => h
              case hwB24 => rfl
              case hyB24 => (intro w hSw; (try dsimp only at hSw); go_simp; try with_reducible rfl)
              try simp only [Act.put, List.setIfInBounds_toArray, List.set_cons_zero, List.set_cons_succ]
              refine' wpAnyH_take (i := 25) ?hiB25 (by kernel_rfl) (by kernel_rfl) (by kernel_rfl) ?hqB25 (Or.inl ⟨?hwB25, ?hyB25⟩) (by assumption) ?restB25
              case hiB25 => (simp only [List.getElem?_toArray, List.getElem?_cons_succ, List.getElem?_cons_zero]; rfl)
              case hqB25 => exact fun _ _ _ h => h
              case hwB25 => rfl
              case hyB25 => (intro w hSw; (try dsimp only at hSw); go_simp; try with_reducible rfl)
              try simp only [Act.put, List.setIfInBounds_toArray, List.set_cons_zero, List.set_cons_succ]
              refine' wpAnyH_take (i := 26) ?hiB26 (by kernel_rfl) (by kernel_rfl) (by kernel_rfl) ?hqB26 (Or.inl ⟨?hwB26, ?hyB26⟩) (by assumption) ?restB26
              case hiB26 => (simp only [List.getElem?_toArray, List.getElem?_cons_succ, List.getElem?_cons_zero]; rfl)
              case hqB26 => exact fun _ _ _ h => h
              case hwB26 => rfl
              case hyB26 => (intro w hSw; (try dsimp only at hSw); go_simp; try with_reducible rfl)
              try simp only [Act.put, List.setIfInBounds_toArray, List.set_cons_zero, List.set_cons_succ]
              refine' wpAnyH_take (i := 27) ?hiB27 (by kernel_rfl) (by kernel_rfl) (by kernel_rfl) ?hqB27 (Or.inl ⟨?hwB27, ?hyB27⟩) (by assumption) ?restB27
              case hiB27 => (simp only [List.getElem?_toArray, List.getElem?_cons_succ, List.getElem?_cons_zero]; rfl)
              case hqB27 => exact fun _ _ _ h => h
              case hwB27 => rfl
              case hyB27 => (intro w hSw; (try dsimp only at hSw); go_simp; try with_reducible rfl)
              try simp only [Act.put, List.setIfInBounds_toArray, List.set_cons_zero, List.set_cons_succ]
              refine' wpAnyH_take (i := 28) ?hiB28 (by kernel_rfl) (by kernel_rfl) (by kernel_rfl) ?hqB28 (Or.inl ⟨?hwB28, ?hyB28⟩) (by assumption) ?restB28
              case hiB28 => (simp only [List.getElem?_toArray, List.getElem?_cons_succ, List.getElem?_cons_zero]; rfl)
              case hqB28 => exact fun _ _ _ h => h
              case hwB28 => rfl
              case hyB28 => (intro w hSw; (try dsimp only at hSw); go_simp; try with_reducible rfl)
              try simp only [Act.put, List.setIfInBounds_toArray, List.set_cons_zero, List.set_cons_succ]
              refine wpAnyH_ready (rs := [29]) (by kernel_rfl) (by simp) ?_
              refine' AllReadyH.cons ?hiC29 (fun K hK => ?restC) AllReadyH.nil
              case hiC29 => (simp only [List.getElem?_toArray, List.getElem?_cons_succ, List.getElem?_cons_zero]; rfl)
              go_simp
              go_at_call 16
              (with_reducible refine (HBT.out _ (HB1.out.below (Below.refl _ _).drew) (HB2.out.below (Below.refl _ _).drew)).mono ?_)
              rintro e w9 ⟨rfl, rfl⟩
              rw [beq_self_eq_true]
              go_wp2_with fail
              refine hK.out _ _ (by exact k8d) (fun hHeld2 => ?_)
              clear hK K hHeld
              try simp only [Act.put, List.setIfInBounds_toArray, List.set_cons_zero, List.set_cons_succ]
              refine' wpAnyH_take (i := 30) ?hiB30 (by kernel_rfl) (by kernel_rfl) (by kernel_rfl) ?hqB30 (Or.inl ⟨?hwB30, ?hyB30⟩) (by assumption) ?restB30
              case hiB30 => (simp only [List.getElem?_toArray, List.getElem?_cons_succ, List.getElem?_cons_zero]; rfl)
              case hqB30 => exact fun _ _ _ h => h
              case hwB30 => rfl
              case hyB30 => (intro w hSw; (try dsimp only at hSw); go_simp; try with_reducible rfl)
              try simp only [Act.put, List.setIfInBounds_toArray, List.set_cons_zero, List.set_cons_succ]
              refine' wpAnyH_take (i := 31) ?hiB31 (by kernel_rfl) (by kernel_rfl) (by kernel_rfl) ?hqB31 (Or.inl ⟨?hwB31, ?hyB31⟩) (by assumption) ?restB31
              case hiB31 => (simp only [List.getElem?_toArray, List.getElem?_cons_succ, List.getElem?_cons_zero]; rfl)
              case hqB31 => exact fun _ _ _ h => h
              case hwB31 => rfl
              case hyB31 => (intro w hSw; (try dsimp only at hSw); go_simp; try with_reducible rfl)
              try simp only [Act.put, List.setIfInBounds_toArray, List.set_cons_zero, List.set_cons_succ]
              refine' wpAnyH_take (i := 32) ?hiB32 (by kernel_rfl) (by kernel_rfl) (by kernel_rfl) ?hqB32 (Or.inl ⟨?hwB32, ?hyB32⟩) (by assumption) ?restB32
              case hiB32 => (simp only [List.getElem?_toArray, List.getElem?_cons_succ, List.getElem?_cons_zero]; rfl)
              case hqB32 => exact fun _ _ _ h => h
              case hwB32 => rfl
              case hyB32 => (intro w hSw; (try dsimp only at hSw); go_simp; try with_reducible rfl)
              try simp only [Act.put, List.setIfInBounds_toArray, List.set_cons_zero, List.set_cons_succ]
              refine' wpAnyH_take (i := 33) ?hiB33 (by kernel_rfl) (by kernel_rfl) (by kernel_rfl) ?hqB33 (Or.inl ⟨?hwB33, ?hyB33⟩) (by assumption) ?restB33
              case hiB33 => (simp only [List.getElem?_toArray, List.getElem?_cons_succ, List.getElem?_cons_zero]; rfl)
              case hqB33 => exact fun _ _ _ h => h
              case hwB33 => rfl
              case hyB33 => (intro w hSw; (try dsimp only at hSw); go_simp; try with_reducible rfl)
              try simp only [Act.put, List.setIfInBounds_toArray, List.set_cons_zero, List.set_cons_succ]
              refine' wpAnyH_take (i := 34) ?hiB34 (by kernel_rfl) (by kernel_rfl) (by kernel_rfl) ?hqB34 (Or.inl ⟨?hwB34, ?hyB34⟩) (by assumption) ?restB34
              case hiB34 => (simp only [List.getElem?_toArray, List.getElem?_cons_succ, List.getElem?_cons_zero]; rfl)
              case hqB34 => exact fun _ _ _ h => h
              case hwB34 => rfl
              case hyB34 => (intro w hSw; (try dsimp only at hSw); go_simp; try with_reducible rfl)
              try simp only [Act.put, List.setIfInBounds_toArray, List.set_cons_zero, List.set_cons_succ]
              refine' wpAnyH_take (i := 35) ?hiB35 (by kernel_rfl) (by kernel_rfl) (by kernel_rfl) ?hqB35 (Or.inl ⟨?hwB35, ?hyB35⟩) (by assumption) ?restB35
              case hiB35 => (simp only [List.getElem?_toArray, List.getElem?_cons_succ, List.getElem?_cons_zero]; rfl)
              case hqB35 => exact fun _ _ _ h => h
              case hwB35 => rfl
              case hyB35 => (intro w hSw; (try dsimp only at hSw); go_simp; try with_reducible rfl)
              try simp only [Act.put, List.setIfInBounds_toArray, List.set_cons_zero, List.set_cons_succ]
              refine' wpAnyH_take (i := 36) ?hiB36 (by kernel_rfl) (by kernel_rfl) (by kernel_rfl) ?hqB36 (Or.inl ⟨?hwB36, ?hyB36⟩) (by assumption) ?restB36
              case hiB36 => (simp only [List.getElem?_toArray, List.getElem?_cons_succ, List.getElem?_cons_zero]; rfl)
              case hqB36 => exact fun _ _ _ h => h
              case hwB36 => rfl
              case hyB36 => (intro w hSw; (try dsimp only at hSw); go_simp; try with_reducible rfl)
              try simp only [Act.put, List.setIfInBounds_toArray, List.set_cons_zero, List.set_cons_succ]
              refine' wpAnyH_take (i := 37) ?hiB37 (by kernel_rfl) (by kernel_rfl) (by kernel_rfl) ?hqB37 (Or.inl ⟨?hwB37, ?hyB37⟩) (by assumption) ?restB37
              case hiB37 => (simp only [List.getElem?_toArray, List.getElem?_cons_succ, List.getElem?_cons_zero]; rfl)
              case hqB37 => exact fun _ _ _ h => h
              case hwB37 => rfl
              case hyB37 => (intro w hSw; (try dsimp only at hSw); go_simp; try with_reducible rfl)
              try simp only [Act.put, List.setIfInBounds_toArray, List.set_cons_zero, List.set_cons_succ]
              refine' wpAnyH_take (i := 38) ?hiB38 (by kernel_rfl) (by kernel_rfl) (by kernel_rfl) ?hqB38 (Or.inl ⟨?hwB38, ?hyB38⟩) (by assumption) ?restB38
              case hiB38 => (simp only [List.getElem?_toArray, List.getElem?_cons_succ, List.getElem?_cons_zero]; rfl)
              case hqB38 => exact fun _ _ _ h => h
              case hwB38 => rfl
              case hyB38 => (intro w hSw; (try dsimp only at hSw); go_simp; try with_reducible rfl)
              try simp only [Act.put, List.setIfInBounds_toArray, List.set_cons_zero, List.set_cons_succ]
              refine' wpAnyH_take (i := 39) ?hiB39 (by kernel_rfl) (by kernel_rfl) (by kernel_rfl) ?hqB39 (Or.inl ⟨?hwB39, ?hyB39⟩) (by assumption) ?restB39
              case hiB39 => (simp only [List.getElem?_toArray, List.getElem?_cons_succ, List.getElem?_cons_zero]; rfl)
              case hqB39 => exact fun _ _ _ h => h
              case hwB39 => rfl
              case hyB39 => (intro w hSw; (try dsimp only at hSw); go_simp; try with_reducible rfl)
              try simp only [Act.put, List.setIfInBounds_toArray, List.set_cons_zero, List.set_cons_succ]
              refine' wpAnyH_take (i := 40) ?hiB40 (by kernel_rfl) (by kernel_rfl) (by kernel_rfl) ?hqB40 (Or.inl ⟨?hwB40, ?hyB40⟩) (by assumption) ?restB40
              case hiB40 => (simp only [List.getElem?_toArray, List.getElem?_cons_succ, List.getElem?_cons_zero]; rfl)
              case hqB40 => exact fun _ _ _ h => h
              case hwB40 => rfl
              case hyB40 => (intro w hSw; (try dsimp only at hSw); go_simp; try with_reducible rfl)
              try simp only [Act.put, List.setIfInBounds_toArray, List.set_cons_zero, List.set_cons_succ]
              refine wpAnyH_done (by kernel_rfl) ?_ _
              go_wp2_with fail
              go_roundw
              case rel => exact ⟨j + 1, by omega, by go_num, HT8.out.below (Below.refl _ _).drew⟩
              case measure => simp [intOf]; omega
          · have hltJ : ¬ (j : Int) < (i : Int) := by omega
            have hbe := hT.bel
            clear hT
            go_wp2_with fail
            go_ret
            exact ⟨rfl, hbe⟩
end Go.Proofs.Ytionjddcahgpkaa
