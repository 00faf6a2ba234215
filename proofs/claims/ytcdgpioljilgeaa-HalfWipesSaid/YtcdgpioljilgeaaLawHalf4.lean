/- The walk of the law HalfPlays. -/
import Derived.Test.YtcdgpioljilgeaaLawHalf
import Derived.Test.YtcdgpioljilgeaaRefScan
import Derived.RegionTactic
set_option linter.unusedVariables false
set_option maxRecDepth 100000
set_option linter.unusedSimpArgs false
namespace Go.Proofs.Ytcdgpioljilgeaa
open Go.RowKit

theorem wipeL_done {g : Geo} {b : Int} (j : Nat) {s : PS} {l : List UInt8} {cnt : Int → Int} {r : Int} {l' : List UInt8} {s' : PS} {cnt' : Int → Int} (h : wipeL g b j s l cnt = (r, l', s', cnt')) : s'.done ≤ s.done + j := by
  induction j generalizing s l cnt with
  | zero => unfold wipeL at h; cases h; exact Nat.le_refl _
  | succ j ih =>
    obtain ⟨r2, l2, s2, cnt2, _, hd, hw⟩ := wipeL_step h
    rcases hw with ⟨_, hw⟩ | ⟨_, hw⟩
    · have := ih hw
      omega
    · cases hw
      omega
theorem wipeE_done {g : Geo} {x : Int} {s : PS} {l : List UInt8} {cnt : Int → Int} {r : Int} {l' : List UInt8} {s' : PS} {cnt' : Int → Int} (h : wipeE g s l cnt x = (r, l', s', cnt')) (hk : halfS g ≤ 8) : s'.done ≤ s.done + 8 := by
  unfold wipeE at h
  split at h
  · have := wipeL_done _ h
    omega
  · cases h
    omega
theorem appE_done {g : Geo} {x at' : Int} {s : PS} {l : List UInt8} {bs : List UInt8} {r : Int} {l' : List UInt8} {s' : PS} (h : appE g s l x at' bs = (r, l', s')) : s'.done ≤ s.done + (bs.length + 7) := by
  have h1 := Go.Proofs.Ytcdgpioljilgeaa.PS.progE_done s l (x * halfN g + at') (bodyL bs)
  rw [bodyL_length] at h1
  unfold appE at h
  generalize progE s l (x * halfN g + at') (bodyL bs) = q at *
  have h2 := Go.Proofs.Ytcdgpioljilgeaa.PS.progE_done q.2.2 q.2.1 (x * halfN g + at' + ((bs.length : Int) + 6)) [0]
  rw [show ([0] : List UInt8).length = 1 from rfl] at h2
  generalize progE q.2.2 q.2.1 (x * halfN g + at' + ((bs.length : Int) + 6)) [0] = q2 at *
  split at h
  · cases h; omega
  · split at h
    · cases h; omega
    · split at h
      · subst h
        simp only at h1
        omega
      · subst h
        simp only at h2
        omega

/-- One thing that is done to a chip. -/
structure OpH where
  kind : Int
  half : Int
  at' : Int
  n : Int
  mask : UInt8
  l : List UInt8

/-- The slice of these as it came in. -/
def OpsH (w : World) (A : Option Addr) (ops : List OpH) : Prop :=
  ops = [] ∨ ∃ b off, A = some ⟨b, off, none⟩ ∧ ∀ i, (h : i < ops.length) → ∃ AL c,
    (∀ j u, [Value.int .i64 ops[i].kind, .int .i64 ops[i].half, .int .i64 ops[i].at', .int .i64 ops[i].n, .int .u8 (ops[i].mask.toNat : Int), .slice AL ops[i].l.length c][j]? = some u → w.cell? ⟨b, off + i * 6 + j, none⟩ = some u) ∧
    Byts w AL ops[i].l ∧ (ops[i].l.length ≤ c ∧ c ≤ maxLen) ∧ (-9223372036854775808 ≤ ops[i].at' ∧ ops[i].at' ≤ 9223372036854775807) ∧ (-9223372036854775808 ≤ ops[i].n ∧ ops[i].n ≤ 9223372036854775807)

theorem opsH_of {w : World} {cs : List Value} (h : Rd Try.prog w 80 cs) : ∃ A c, ∃ ops : List OpH, cs = [.slice A ops.length c] ∧ (ops.length ≤ c ∧ c ≤ maxLen) ∧ OpsH w A ops := by
  obtain ⟨A, len, cap, rfl, h1, h2, _, h3⟩ := h.slice Try.underlying80 (sz := 6) (by kernel_rfl) (by omega)
  rcases h3 with rfl | ⟨b, off, rfl, hel⟩
  · exact ⟨A, cap, [], rfl, ⟨h1, h2⟩, Or.inl rfl⟩
  · have hx : ∀ i, i < len → ∃ o : OpH, ∃ AL c,
        (∀ j u, [Value.int .i64 o.kind, .int .i64 o.half, .int .i64 o.at', .int .i64 o.n, .int .u8 (o.mask.toNat : Int), .slice AL o.l.length c][j]? = some u → w.cell? ⟨b, off + i * 6 + j, none⟩ = some u) ∧
        Byts w AL o.l ∧ (o.l.length ≤ c ∧ c ≤ maxLen) ∧ (-9223372036854775808 ≤ o.at' ∧ o.at' ≤ 9223372036854775807) ∧ (-9223372036854775808 ≤ o.n ∧ o.n ≤ 9223372036854775807) := fun i hi => by
      obtain ⟨cs', hl, hc, hr⟩ := hel i hi
      obtain ⟨_, hf⟩ := hr.struct Try.underlying82
      have c1 : Try.prog.cellsOf 3 = 1 := by kernel_rfl
      have c2 : Try.prog.cellsOf 5 = 1 := by kernel_rfl
      have c3 : Try.prog.cellsOf 24 = 1 := by kernel_rfl
      have f0 : Rd Try.prog w 3 ((cs'.drop 0).take (Try.prog.cellsOf 3)) := hf 0 _ rfl
      have f1 : Rd Try.prog w 3 ((cs'.drop 1).take (Try.prog.cellsOf 3)) := hf 1 _ rfl
      have f2 : Rd Try.prog w 3 ((cs'.drop 2).take (Try.prog.cellsOf 3)) := hf 2 _ rfl
      have f2b : Rd Try.prog w 3 ((cs'.drop 3).take (Try.prog.cellsOf 3)) := hf 3 _ rfl
      have f3 : Rd Try.prog w 5 ((cs'.drop 4).take (Try.prog.cellsOf 5)) := hf 4 _ rfl
      have f4 : Rd Try.prog w 24 ((cs'.drop 5).take (Try.prog.cellsOf 24)) := hf 5 _ rfl
      rw [c1] at f0 f1 f2 f2b
      rw [c2] at f3
      rw [c3] at f4
      obtain ⟨n0, e0, w0⟩ := f0.int Try.underlying3
      obtain ⟨n1, e1, w1⟩ := f1.int Try.underlying3
      obtain ⟨n2, e2, w2⟩ := f2.int Try.underlying3
      obtain ⟨n2b, e2b, w2b⟩ := f2b.int Try.underlying3
      obtain ⟨n3, e3, w3⟩ := f3.int Try.underlying5
      obtain ⟨AL, c, l, e4, hcap, hby⟩ := f4.byts Try.underlying24 Try.underlying5 c2
      obtain ⟨y, rfl⟩ := byte_of (wf_u8 w3)
      match cs', hl with
      | [v0, v1, v2, v2b, v3, v4], _ =>
        obtain rfl := (List.cons.inj e0).1
        obtain rfl := (List.cons.inj e1).1
        obtain rfl := (List.cons.inj e2).1
        obtain rfl := (List.cons.inj e2b).1
        obtain rfl := (List.cons.inj e3).1
        obtain rfl := (List.cons.inj e4).1
        exact ⟨⟨n0, n1, n2, n2b, y, l⟩, AL, c, hc, hby, hcap, wf_i64 w2, wf_i64 w2b⟩
    classical
    let f : Nat → OpH := fun i => if hi : i < len then Classical.choose (hx i hi) else ⟨0, 0, 0, 0, 0, []⟩
    have hf : ∀ i, (hi : i < len) → f i = Classical.choose (hx i hi) := fun i hi => dif_pos hi
    refine ⟨_, cap, (List.range len).map f, by simp, by simpa using ⟨h1, h2⟩, Or.inr ⟨b, off, rfl, fun i hi => ?_⟩⟩
    have hi' : i < len := by simpa using hi
    have := Classical.choose_spec (hx i hi')
    simpa [hf i hi'] using this

set_option maxHeartbeats 16000000 in
theorem halfPlays_walk {w : World} (g0 g1 g2 g3 g4 : Int) (A : Option Addr) (c : Nat) (ops : List OpH) (hcap : ops.length ≤ c ∧ c ≤ maxLen) (h : OpsH w A ops) :
    Calls Try.prog 13 #[.agg #[.int .i64 g0, .int .i64 g1, .int .i64 g2, .int .i64 g3, .int .i64 g4], .slice A ops.length c] w fun e w' => e = .returned (.bool true) ∧ Below w.heap.size w w' := by
  obtain ⟨w0, rfl⟩ : ∃ w0 : World, w0 = w := ⟨_, rfl⟩
  have hl63 : ops.length ≤ 9223372036854775807 := Nat.le_trans hcap.1 hcap.2
  have hs0 : w0.heap.size ≤ w0.heap.size := Nat.le_refl _
  have hbx := Blk.new w0 [.int .i64 g0, .int .i64 g1, .int .i64 g2, .int .i64 g3, .int .i64 g4] 23
  have hbel := below_alloc w0 (.cells [.int .i64 g0, .int .i64 g1, .int .i64 g2, .int .i64 g3, .int .i64 g4].toArray 23 (0, 0))
  have hlt0 := hbx.lt
  obtain ⟨sa, sz, gc, gd, ge, hG, hok, hsa1, hsa2, -, hsz1, hsz2, -⟩ := playG_is ⟨g0, g1, g2, g3, g4⟩
  have HG := Lib.hid (fun W => play_geometry_as g0 g1 g2 g3 g4 W hG)
  clear hG
  have b0 := hbx.cell 0 _ rfl
  have b1 := hbx.cell 1 _ rfl
  have b2 := hbx.cell 2 _ rfl
  have b3 := hbx.cell 3 _ rfl
  have b4 := hbx.cell 4 _ rfl
  go_enter Try.func13, Try.ntmps13
  go_upto_region 2 with (go_at_call 16; refine (HG.out _).mono ?_; rintro e w1 ⟨rfl, hb1⟩; have hz1 := hbx.below hb1; have e0 := hz1.cell 0 _ rfl; have e1 := hz1.cell 1 _ rfl; have e2 := hz1.cell 2 _ rfl; have e3 := hz1.cell 3 _ rfl; have e4 := hz1.cell 4 _ rfl; have f0 := hz1.frz 0; have f1 := hz1.frz 1; have f2 := hz1.frz 2; have f3 := hz1.frz 3; have f4 := hz1.frz 4; have hs1 := hb1.size)
  have hq := box_turned hz1 (u0 := .int .i64 (sa : Int)) (u1 := .int .i64 (sz : Int)) (u2 := .int .i64 (gc : Int)) (u3 := .int .i64 (gd : Int)) (u4 := .int .i64 (ge : Int))
  have hbq := box_below (hbel.trans (hb1.mono hbel.size)) hs0 (u0 := .int .i64 (sa : Int)) (u1 := .int .i64 (sz : Int)) (u2 := .int .i64 (gc : Int)) (u3 := .int .i64 (gd : Int)) (u4 := .int .i64 (ge : Int))
  clear hz1 e0 e1 e2 e3 e4 f0 f1 f2 f3 f4 b0 b1 b2 b3 b4 hbx hb1 hbel hs1 hlt0
  generalize (((((w1.setCell ⟨w0.heap.size, 0, none⟩ (.int .i64 (sa : Int))).setCell ⟨w0.heap.size, 1, none⟩ (.int .i64 (sz : Int))).setCell ⟨w0.heap.size, 2, none⟩ (.int .i64 (gc : Int))).setCell ⟨w0.heap.size, 3, none⟩ (.int .i64 (gd : Int))).setCell ⟨w0.heap.size, 4, none⟩ (.int .i64 (ge : Int))) = w3 at *
  have hs3 := hq.lt
  have HQ := Lib.hid (fun (W : World) (h : Blk W w0.heap.size 23 [.int .i64 (sa : Int), .int .i64 (sz : Int), .int .i64 (gc : Int), .int .i64 (gd : Int), .int .i64 (ge : Int)]) =>
    (And.intro (h.cell 0 _ rfl) (And.intro (h.cell 1 _ rfl) (And.intro (h.cell 2 _ rfl) (And.intro (h.cell 3 _ rfl) (h.cell 4 _ rfl)))) : W.cell? ⟨w0.heap.size, 0, none⟩ = some (.int .i64 (sa : Int)) ∧ W.cell? ⟨w0.heap.size, 1, none⟩ = some (.int .i64 (sz : Int)) ∧ W.cell? ⟨w0.heap.size, 2, none⟩ = some (.int .i64 (gc : Int)) ∧ W.cell? ⟨w0.heap.size, 3, none⟩ = some (.int .i64 (gd : Int)) ∧ W.cell? ⟨w0.heap.size, 4, none⟩ = some (.int .i64 (ge : Int))))
  go_upto_region 3 with (first
    | (go_at_call 18; refine (pow_new _).mono ?_; rintro e w4 ⟨v, rfl, pb, rfl, hpg, hpl, hp4, hb4⟩)
    | (go_at_call 32; refine (rpow_new _).mono ?_; rintro e w5 ⟨v, rfl, qb, rfl, hqg, hql, hp5, hb5⟩))
  have hq5 := (hq.below hb4).below hb5
  have hp45 := hp4.below hb5
  have z4 := hb4.size
  have hb50 := (hbq.trans (hb4.mono (by omega))).trans (hb5.mono (by omega))
  have z5 := hb50.size
  have z5b := hq5.lt
  clear hq hbq hp4 hb4 hb5
  obtain ⟨b0, b1, b2, b3, b4⟩ := HQ.out _ hq5
  go_upto_region 4 with (go_at_call 17; refine (rig_new2 (B := w0.heap.size + 1) (g := ⟨sa, sz, gc, gd, ge⟩) hp45 (by omega) (by omega) hok).mono ?_; rintro e w6 ⟨cb, bb, mb, rfl, hR, hb6, hcg, hbg, hmg⟩)
  have hq6 := hq5.below hb6
  have hp6 := hp5.below hb6
  have hb60 := hb50.trans (hb6.mono z5)
  have z6 := hb6.size
  clear hq5 hp45 hp5 hb6 hb50 b0 b1 b2 b3 b4
  obtain ⟨b0, b1, b2, b3, b4⟩ := HQ.out _ hq6
  go_upto_region 5 with (go_at_call 33; refine (rrig_new (B := w0.heap.size + 1) (g := ⟨sa, sz, gc, gd, ge⟩) hp6 (by omega) (by omega) hok).mono ?_; rintro e w7 ⟨rb, rl, kb, rfl, hS, hb7, hrg, hrlg, hkg⟩)
  have hq7 := hq6.below hb7
  have hR7 := hR.below hb7
  have hb70 := hb60.trans (hb7.mono (by omega))
  have z7 := hb70.size
  have hap : Apart cb bb mb pb rb rl kb qb := by
    intro x hx hx2
    have h1 := hR.c.lt cb (by simp)
    have h2 := hR.c.lt bb (by simp)
    have h3 := hR.c.lt mb (by simp)
    have h4 := hR.lt
    simp at hx hx2
    omega
  clear hq6 hR hb60 hb7 hcg hbg hmg hrg hrlg hkg b0 b1 b2 b3 b4
  go_upto_region 7 with (go_at_call 51; refine (awake08 _).mono ?_; rintro e w9 ⟨rfl, hb9⟩; have hR9 := hR7.below hb9; have hS9 := hS.below hb9; have hb90 := hb70.trans (hb9.mono z7))
  have z9 := hb90.size
  clear hq7 HQ hsa1 hsa2 hsz1 hsz2 hpg hpl hp6 hqg hql z4 z5 z5b z6 z7 hs3 hR7 hS hb70
  generalize (Geo.mk sa sz gc gd ge) = G at *
  go_upto_region 8 with fail
  go_loopw [11] (fun v11 wr => ∃ (i : Nat) (l : List UInt8) (N M : Nat) (cnt : Int → Int) (s : PS), i ≤ ops.length ∧ i ≤ 40 ∧ v11 = .int .i64 (i : Int) ∧ Rig (w0.heap.size + 1) wr cb bb mb pb [pb] G l N cnt s ∧ RRig (w0.heap.size + 1) wr rb rl kb qb G l M cnt s ∧ N ≤ 8 * i ∧ M ≤ 8 * i ∧ s.done ≤ 500 * i ∧ Below w0.heap.size w0 wr) (fun v11 _ => 40 - (intOf v11).toNat)
  case atStart => exact ⟨0, _, 0, 0, fun _ => 0, PS.new, Nat.zero_le _, by decide, rfl, hR9, hS9, Nat.le_refl _, Nat.le_refl _, by decide, hb90⟩
  case round =>
    clear hR9 hS9 hb90
    obtain ⟨i, l, N, M, cnt, s, hi, hi60, rfl, hR, hS, hN, hM, hdn, hbel⟩ := hrel
    by_cases hlt : i < ops.length
    · by_cases hlt2 : i < 40
      · rcases h with rfl | ⟨b, off, rfl, hc⟩
        · simp at hlt
        obtain ⟨AL, cl, ho0, hi0, hcap1, hatb, hnb⟩ := hc i hlt
        have ho : ∀ j u, [Value.int .i64 ops[i].kind, .int .i64 ops[i].half, .int .i64 ops[i].at', .int .i64 ops[i].n, .int .u8 (ops[i].mask.toNat : Int), .slice AL ops[i].l.length cl][j]? = some u → wr.cell? ⟨b, off + i * 6 + j, none⟩ = some u :=
          fun j u hu => (hbel.cell (World.block_lt_of_cell? w0 _ (ho0 j u hu))).trans (ho0 j u hu)
        clear ho0
        generalize ops[i] = o at *
        rcases o with ⟨kind, hf, x, n, mask, bs⟩
        have x0 : wr.cell? ⟨b, off + i * 6, none⟩ = some (.int .i64 kind) := ho 0 _ rfl
        have x1 : wr.cell? ⟨b, off + i * 6 + 1, none⟩ = some (.int .i64 hf) := ho 1 _ rfl
        have x2 : wr.cell? ⟨b, off + i * 6 + 2, none⟩ = some (.int .i64 x) := ho 2 _ rfl
        have x3 : wr.cell? ⟨b, off + i * 6 + 3, none⟩ = some (.int .i64 n) := ho 3 _ rfl
        have x4 : wr.cell? ⟨b, off + i * 6 + 4, none⟩ = some (.int .u8 (mask.toNat : Int)) := ho 4 _ rfl
        have x5 : wr.cell? ⟨b, off + i * 6 + 5, none⟩ = some (.slice AL bs.length cl) := ho 5 _ rfl
        simp only at hi0 hcap1 hatb hnb
        clear hc ho
        have hby := hi0.below hbel
        have hob : 0 < bs.length → ∀ y, AL = some y → y.block < w0.heap.size := fun h0 y e => hi0.lt h0 y e
        clear hi0
        go_upto_block 2 with fail
        have hbo := Blk.new wr [.int .i64 kind, .int .i64 hf, .int .i64 x, .int .i64 n, .int .u8 (mask.toNat : Int), .slice AL bs.length cl] 82
        have hbx := below_alloc wr (.cells [.int .i64 kind, .int .i64 hf, .int .i64 x, .int .i64 n, .int .u8 (mask.toNat : Int), .slice AL bs.length cl].toArray 82 (0, 0))
        have hbs : wr.heap.size < (wr.alloc (.cells [.int .i64 kind, .int .i64 hf, .int .i64 x, .int .i64 n, .int .u8 (mask.toNat : Int), .slice AL bs.length cl].toArray 82 (0, 0))).heap.size := by simp
        generalize wr.alloc (.cells [.int .i64 kind, .int .i64 hf, .int .i64 x, .int .i64 n, .int .u8 (mask.toNat : Int), .slice AL bs.length cl].toArray 82 (0, 0)) = w1 at *
        have hR1 := hR.below hbx
        have hS1 := hS.below hbx
        have hby1 := hby.below hbx
        have hbel1 := hbel.trans (hbx.mono hbel.size)
        have hoR : ∀ y ∈ [cb, bb, mb, pb], y < wr.heap.size := fun y hy => by
          have h1 := hR.c.lt
          have h2 := hR.lt
          simp at hy
          rcases hy with rfl | rfl | rfl | rfl
          · exact h1 _ (by simp)
          · exact h1 _ (by simp)
          · exact h1 _ (by simp)
          · exact h2.2
        have hoS : ∀ y ∈ [rb, rl, kb, qb], y < wr.heap.size := fun y hy => by
          have h1 := hS.lt
          simp at hy
          omega
        have hbo0 : w0.heap.size ≤ wr.heap.size := hbel.size
        clear hR hS hby hbel hbx x0 x1 x2 x3 x4 x5
        generalize wr.heap.size = bo at *
        go_cut [13] (fun v13 w' => v13 = .bool true ∧ ∃ (l' : List UInt8) (N' M' : Nat) (cnt' : Int → Int) (s' : PS), Rig (w0.heap.size + 1) w' cb bb mb pb [pb] G l' N' cnt' s' ∧ RRig (w0.heap.size + 1) w' rb rl kb qb G l' M' cnt' s' ∧ N' ≤ 8 * (i + 1) ∧ M' ≤ 8 * (i + 1) ∧ s'.done ≤ 500 * (i + 1) ∧ Below w0.heap.size w0 w')
        case first =>
          have hs1 := hbel1.size
          have c0 := hbo.cell 0 _ rfl
          have c1 := hbo.cell 1 _ rfl
          have c2 := hbo.cell 2 _ rfl
          have c3 := hbo.cell 3 _ rfl
          have c4 := hbo.cell 4 _ rfl
          have c5 := hbo.cell 5 _ rfl
          have hnL : bo ∉ [bb, mb, pb] := fun hm => by have := hoR bo (by simp at hm ⊢; omega); omega
          have hnR : bo ∉ [rl, kb, qb] := fun hm => by have := hoS bo (by simp at hm ⊢; omega); omega
          by_cases hk1 : kind = 1
          · as_aux_lemma =>
              subst hk1
              obtain ⟨r, l2, s2, cnt2, hE⟩ : ∃ r l2 s2 cnt2, wipeE G s l cnt hf = (r, l2, s2, cnt2) := ⟨_, _, _, _, rfl⟩
              have hd2 := wipeE_done hE (half_facts hR1.c.ok).2.2.1
              have E := Lib.hid hE
              clear hE
              have hrr : (r == r) = true := by simp
              have hNb : N ≤ 100000000 := by omega
              have hMb : M ≤ 100000000 := by omega
              have hdb : s.done ≤ 100000000000 := by omega
              go_upto_region 20 with fail
              go_region_held3 (fun w' => w'.cell? ⟨bo, 1, none⟩ = some (.int .i64 hf))
                (first | (with_reducible exact c1) | (with_reducible exact hbo.drew.cell 1 _ rfl) | (with_reducible exact d1) | (with_reducible exact e1))
                (first
                  | (go_at_call 56; refine (half_wipe (hR1.below (below_drewN (Below.refl _ _) 1)) hNb hf hdb E.out).mono ?_; rintro e w2 ⟨rfl, ⟨N2, hN2, hR2⟩, ho2⟩; have hbo2 := hbo.drew.only ho2 hnL; have d1 := hbo2.cell 1 _ rfl; have hS2 := (hS1.below (below_drewN (Below.refl _ _) 1)).offL hap ho2)
                  | (go_at_call 57; refine (ref_wipe hS2 hMb hf hdb E.out).mono ?_; rintro e w3 ⟨rfl, ⟨M3, hM3, hS3⟩, ho3⟩; have hbo3 := hbo2.only ho3 hnR; have e1 := hbo3.cell 1 _ rfl; have hR3 := hR2.offR hap ho3))
              go_wp2_with fail
              go_meet
              exact ⟨rfl, l2, N2, M3, cnt2, s2, hR3, hS3, by omega, by omega, by omega, hS2.fresh (Nat.le_succ _) (hR1.fresh (Nat.le_succ _) hbel1 hs0 (by have h9 := (Only.refl [bb, mb, pb] w1).drew.trans ho2; exact h9)) hs0 ho3⟩
          have hk1' : (kind == 1) = false := beq_eq_false_iff_ne.2 hk1
          clear hk1
          by_cases hk2 : kind = 2
          · as_aux_lemma =>
              subst hk2
              clear hk1'
              obtain ⟨AR, cR, hrb⟩ := hS1.p.blk
              have r0 := hrb.cell 0 _ rfl
              clear hrb
              cases hoff : s.off with
              | true =>
                rw [hoff] at r0
                clear hoff
                go_wp2_with fail
                go_meet
                exact ⟨rfl, l, N, M, cnt, s, hR1, hS1, by omega, by omega, by omega, hbel1⟩
              | false =>
                rw [hoff] at r0
                clear hoff
                go_upto_region 24 with (go_at_call 25; refine (rig_cut hR1 n mask hnb.2).mono ?_; rintro e w2 ⟨rfl, hR2, ho2⟩)
                have ho2' := ho2.mono (S' := [bb, mb, pb]) (by simp)
                have hS2 := hS1.offL hap ho2'
                have hbo2 := hbo.only ho2' hnL
                have d3 := hbo2.cell 3 _ rfl
                have d4 := hbo2.cell 4 _ rfl
                have hb2 := hR1.fresh (Nat.le_succ _) hbel1 hs0 ho2'
                clear r0 ho2 hR1 hS1 hbo hbel1 c0 c1 c2 c3 c4 c5
                go_wp2_with (go_at_call 35; refine (rrig_cut hS2 n mask hnb.2).mono ?_; rintro e w3 ⟨rfl, hS3, ho3⟩)
                go_meet
                exact ⟨rfl, l, N, M, cnt, _, hR2.offR hap ho3, hS3, by omega, by omega, by show s.done ≤ _; omega, hS2.fresh (Nat.le_succ _) hb2 hs0 ho3⟩
          have hk2' : (kind == 2) = false := beq_eq_false_iff_ne.2 hk2
          clear hk2
          by_cases hk3 : kind = 3
          · as_aux_lemma =>
              subst hk3
              clear hk1' hk2'
              go_upto_region 27 with (go_at_call 26; refine (rig_on hR1).mono ?_; rintro e w2 ⟨rfl, hR2, ho2⟩)
              have ho2' := ho2.mono (S' := [bb, mb, pb]) (by simp)
              have hS2 := hS1.offL hap ho2'
              have hb2 := hR1.fresh (Nat.le_succ _) hbel1 hs0 ho2'
              clear ho2 hR1 hS1 hbo hbel1 c0 c1 c2 c3 c4 c5
              go_wp2_with (go_at_call 36; refine (rrig_on hS2).mono ?_; rintro e w3 ⟨rfl, hS3, ho3⟩)
              go_meet
              exact ⟨rfl, l, N, M, cnt, _, hR2.offR hap ho3, hS3, by omega, by omega, by show s.done ≤ _; omega, hS2.fresh (Nat.le_succ _) hb2 hs0 ho3⟩
          have hk3' : (kind == 3) = false := beq_eq_false_iff_ne.2 hk3
          clear hk3
          by_cases h400 : 400 < bs.length
          · go_wp2_with fail
            go_ret
            exact ⟨rfl, hbel1⟩
          go_upto_if 69 with fail
          go_cut [13] (fun v13 w' => v13 = .bool true ∧ ∃ x2 : Int, (-9223372036854775808 ≤ x2 ∧ x2 ≤ 9223372036854775807) ∧ Rig (w0.heap.size + 1) w' cb bb mb pb [pb] G l N cnt s ∧ RRig (w0.heap.size + 1) w' rb rl kb qb G l M cnt s ∧ Byts w' AL bs ∧ Blk w' bo 82 [.int .i64 kind, .int .i64 hf, .int .i64 x2, .int .i64 n, .int .u8 (mask.toNat : Int), .slice AL bs.length cl] ∧ Below w0.heap.size w0 w')
          case first =>
            by_cases hk4 : kind = 4
            · as_aux_lemma =>
                subst hk4
                obtain ⟨m, hm⟩ : ∃ m, halfL G l hf = m := ⟨_, rfl⟩
                obtain ⟨r, hr⟩ : ∃ r, halfA hf = r := ⟨_, rfl⟩
                obtain ⟨k, hk⟩ : ∃ k, m.length = k := ⟨_, rfl⟩
                have hkl : k ≤ 65536 := by
                  have h1 := hR1.c.size.1
                  have h2 : k ≤ l.length := by
                    rw [← hk, ← hm]
                    unfold halfL
                    split
                    · rw [List.length_take, List.length_drop]; omega
                    · exact Nat.zero_le _
                  omega
                have he := scanF_le m.length m
                have he2 : endF (recsF m) ≤ 65536 := by unfold recsF; omega
                clear he
                have HM := Lib.hid hm
                have HR := Lib.hid hr
                have HK := Lib.hid hk
                clear hm hr hk
                go_upto_region 17 with (go_at_call 58; refine (ref_readhalf hS1 hf HM.out HR.out HK.out).mono ?_; rintro e w2 ⟨A2, c2', rfl, hc2, hy2, hA2, hb2⟩)
                have hR2 := hR1.below hb2
                have hS2 := hS1.below hb2
                have hy12 := hby1.below hb2
                have hbo2 := hbo.below hb2
                have hbel2 := hbel1.trans (hb2.mono hs1)
                have hs2 := hbel2.size
                clear hR1 hS1 hby1 hbo hbel1 hb2 c0 c1 c2 c3 c4 c5 hA2
                have HOB := Lib.hid hob
                clear hob
                go_wp2_with (go_at_call 47; refine (ref_scan A2 k c2' m _ hy2 HK.out hc2.1 hc2.2 (by omega)).mono ?_; rintro e w3 ⟨A3, c3', rfl, hc3, hrw3, hA3, hb3⟩; have hbo3 := hbo2.below hb3; have f2 := hbo3.frz 2; have c2 := hbo3.cell 2 _ rfl)
                go_meet
                have ho := (Only.refl [bo] w3).setCell (p := ⟨bo, 2, none⟩) (Or.inl (by simp)) (.int .i64 (endF (recsF m) : Int))
                have hb30 := hbel2.trans (hb3.mono hs2)
                exact ⟨rfl, _, ⟨by omega, by omega⟩, (hR2.below hb3).only ho (fun y hy hz => by have := hoR y (by simp at hy ⊢; omega); simp at hz; omega) (fun y hy hz => by have := hoR y (by simp at hy ⊢; omega); simp at hz; omega),
                  (hS2.below hb3).only ho (fun y hy hz => by have := hoS y hy; simp at hz; omega), (hy12.below hb3).only ho (fun y e h0 hz => by have := HOB.out h0 y e; simp at hz; omega), hbo3.set 2 _, hb30.setCell hbo0 _⟩
            · have hk4' : (kind == 4) = false := beq_eq_false_iff_ne.2 hk4
              go_wp2_with fail
              go_meet
              exact ⟨rfl, x, hatb, hR1, hS1, hby1, hbo, hbel1⟩
          case rest =>
            clear c0 c1 c2 c3 c4 c5 hR1 hS1 hby1 hbo hbel1 hk1' hk2' hk3' hs1 hatb
            obtain ⟨rfl, x2, hatb, hR1, hS1, hby1, hbo, hbel1⟩ := hcut
            obtain ⟨w4, rfl⟩ : ∃ w4, w4 = wc := ⟨_, rfl⟩
            have c1 := hbo.cell 1 _ rfl
            have c2 := hbo.cell 2 _ rfl
            have c5 := hbo.cell 5 _ rfl
            obtain ⟨r, l2, s2, hE⟩ : ∃ r l2 s2, appE G s l hf x2 bs = (r, l2, s2) := ⟨_, _, _, rfl⟩
            have hd2 := appE_done hE
            have E := Lib.hid hE
            clear hE
            have hrr : (r == r) = true := by simp
            obtain ⟨nb, hnb'⟩ : ∃ nb, bs.length = nb := ⟨_, rfl⟩
            rw [hnb'] at c5 hd2 h400 hcap1
            have HNB := Lib.hid hnb'
            have hbo4 : Blk w4 bo 82 [.int .i64 kind, .int .i64 hf, .int .i64 x2, .int .i64 n, .int .u8 (mask.toNat : Int), .slice AL nb cl] := by rw [← hnb']; exact hbo
            clear hnb' hbo
            have hdone : s.done + (nb + 7) ≤ 1000000000000 := by omega
            have HK := Lib.hid (fun (W : World) (h : Blk W bo 82 [.int .i64 kind, .int .i64 hf, .int .i64 x2, .int .i64 n, .int .u8 (mask.toNat : Int), .slice AL nb cl]) =>
              (⟨h.cell 1 _ rfl, h.cell 2 _ rfl, h.cell 5 _ rfl⟩ : W.cell? ⟨bo, 1, none⟩ = some (.int .i64 hf) ∧ W.cell? ⟨bo, 2, none⟩ = some (.int .i64 x2) ∧ W.cell? ⟨bo, 5, none⟩ = some (.slice AL nb cl)))
            have hyd := hby1.drewN 1
            go_upto_region 18 with fail
            go_region_held3 (fun w' => w'.cell? ⟨bo, 1, none⟩ = some (.int .i64 hf) ∧ w'.cell? ⟨bo, 2, none⟩ = some (.int .i64 x2) ∧ w'.cell? ⟨bo, 5, none⟩ = some (.slice AL nb cl))
              (first | (with_reducible exact HK.out _ hbo4) | (with_reducible exact HK.out _ hbo4.drew) | (with_reducible exact HK.out _ hbo2) | (with_reducible exact HK.out _ hbo3))
              (first
                | (go_at_call 52; refine (half_append (hR1.below (below_drewN (Below.refl _ _) 1)) hf x2 hatb AL nb cl bs hyd HNB.out (by omega) hdone E.out).mono ?_; rintro e w2 ⟨rfl, hR2, ho2⟩; have ho2' := ho2.mono (S' := [bb, mb, pb]) (by simp); have hbo2 := hbo4.drew.only ho2' hnL; have hy2 := hyd.only ho2 (fun y e h0 hz => by have := hob h0 y e; have := hR1.own2 y.block hz; omega); have hS2 := (hS1.below (below_drewN (Below.refl _ _) 1)).offL hap ho2')
                | (go_at_call 59; refine (ref_appendhalf hS2 hf x2 hatb AL nb cl bs hy2 HNB.out (by omega) hdone E.out).mono ?_; rintro e w3 ⟨rfl, hS3, ho3⟩; have hbo3 := hbo2.only ho3 hnR; have hR3 := hR2.offR hap ho3))
            go_wp2_with fail
            go_meet
            exact ⟨rfl, l2, N, M, cnt, s2, hR3, hS3, by omega, by omega, by omega, hS2.fresh (Nat.le_succ _) (hR1.fresh (Nat.le_succ _) hbel1 hs0 (by have h9 := (Only.refl [bb, mb, pb] w4).drew.trans ho2'; exact h9)) hs0 ho3⟩
        case rest =>
          clear hR1 hS1 hby1 hbel1 hbo hdn hN hM
          obtain ⟨rfl, l', N', M', cnt', s', hR2, hS2, hN2, hM2, hd2, hbel2⟩ := hcut
          obtain ⟨w4, rfl⟩ : ∃ w4, w4 = wc := ⟨_, rfl⟩
          go_upto_region 29 with fail
          go_loopw [16] (fun v16 wx => ∃ j : Nat, j ≤ 4 ∧ v16 = .int .i64 ((j : Int) - 1) ∧ Rig (w0.heap.size + 1) wx cb bb mb pb [pb] G l' N' cnt' s' ∧ RRig (w0.heap.size + 1) wx rb rl kb qb G l' M' cnt' s' ∧ Below w0.heap.size w0 wx) (fun v16 _ => 4 - (intOf v16 + 1).toNat)
          case atStart => exact ⟨0, by decide, rfl, hR2, hS2, hbel2⟩
          case round =>
            clear hR2 hS2 hbel2
            obtain ⟨j, hj, rfl, hR2, hS2, hbel2⟩ := hrel
            by_cases hj3 : j < 4
            · as_aux_lemma =>
                have hj3I : (j : Int) - 1 < 3 := by omega
                obtain ⟨hx, hhx⟩ : ∃ hx : Int, (j : Int) - 1 = hx := ⟨_, rfl⟩
                rw [hhx] at hj3I ⊢
                obtain ⟨m, hm⟩ : ∃ m, halfL G l' hx = m := ⟨_, rfl⟩
                obtain ⟨r, hr⟩ : ∃ r, halfA hx = r := ⟨_, rfl⟩
                obtain ⟨k, hk⟩ : ∃ k, m.length = k := ⟨_, rfl⟩
                have HM := Lib.hid hm
                have HR := Lib.hid hr
                have HK := Lib.hid hk
                have HX := Lib.hid hhx
                have hx1 : -1 ≤ hx := by omega
                clear hm hr hk hhx
                go_upto_region 32 with (go_at_call 53; refine (half_read hR2 hx HM.out HR.out HK.out).mono ?_; rintro e w5 ⟨A5, c5, rfl, hc5, hy5, hA5, hb5⟩)
                have hR3 := hR2.below hb5
                have hS3 := hS2.below hb5
                have hbel3 := hbel2.trans (hb5.mono hbel2.size)
                clear hR2 hS2 hbel2 hb5 hA5
                go_upto_region 33 with (go_at_call 58; refine (ref_readhalf hS3 hx HM.out HR.out HK.out).mono ?_; rintro e w6 ⟨A6, c6, rfl, hc6, hy6, hA6, hb6⟩)
                have hR4 := hR3.below hb6
                have hS4 := hS3.below hb6
                have hy5' := hy5.below hb6
                have hbel4 := hbel3.trans (hb6.mono hbel3.size)
                have hmm : (m == m) = true := by simp
                have hrr : (r != r) = false := by simp
                have HMM := Lib.hid hmm
                clear hR3 hS3 hbel3 hb6 hA6 hy5 hmm
                go_wp2_with (go_at_call 23; refine (help_bytes A5 k c5 m A6 k c6 m _ hy5' HK.out.symm hy6 HK.out.symm).mono ?_; rintro e w' ⟨rfl, rfl⟩; rw [HMM.out])
                go_roundw
                case rel => exact ⟨j + 1, by omega, by rw [← HX.out]; go_num, hR4, hS4, hbel4⟩
                case measure => simp [intOf]; have := HX.out; omega
            · obtain rfl : j = 4 := by omega
              go_wp2_with fail
              go_roundw
              case rel => exact ⟨i + 1, l', N', M', cnt', s', by omega, by omega, by go_num, hR2, hS2, hN2, hM2, hd2, hbel2⟩
              case measure => simp [intOf]; omega
      · obtain rfl : i = 40 := by omega
        go_wp2_with fail
        go_ret
        exact ⟨rfl, hbel⟩
    · obtain rfl : i = ops.length := by omega
      go_wp2_with fail
      go_ret
      exact ⟨rfl, hbel⟩
end Go.Proofs.Ytcdgpioljilgeaa
