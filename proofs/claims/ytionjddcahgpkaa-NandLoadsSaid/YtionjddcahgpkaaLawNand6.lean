/- The walk of NandLoads. -/
import Derived.Test.YtionjddcahgpkaaNandL
import Derived.Test.YtionjddcahgpkaaRefNand5
import Derived.Test.YtionjddcahgpkaaNandG
import Derived.Deep.RegionHeldLaw
import Derived.Laws.StructEq
set_option linter.unusedVariables false
set_option maxRecDepth 100000
set_option linter.unusedSimpArgs false
namespace Go.Proofs.Ytionjddcahgpkaa
open Go.RowKit

/-- Bytes, and a filling byte behind them. -/
def fillL (l : List UInt8) (f : UInt8) (T : Nat) : List UInt8 := (List.range T).map fun j => l.getD j f
theorem fillL_length (l : List UInt8) (f : UInt8) (T : Nat) : (fillL l f T).length = T := by simp [fillL]
theorem fillL_step (l : List UInt8) (f : UInt8) (T i : Nat) (hi : i < T) : ((fillL l f T).take i ++ List.replicate (T - i) 0).set i (l.getD i f) = (fillL l f T).take (i + 1) ++ List.replicate (T - (i + 1)) 0 := by
  have h1 : ((fillL l f T).take i).length = i := by rw [List.length_take, fillL_length]; omega
  rw [List.set_append_right _ _ (by omega), h1, Nat.sub_self]
  obtain ⟨k, hk⟩ : ∃ k, T - i = k + 1 := ⟨T - i - 1, by omega⟩
  rw [hk, show T - (i + 1) = k by omega, List.replicate_succ, List.set_cons_zero, List.take_succ_eq_append_getElem (by rw [fillL_length]; exact hi), List.append_assoc]
  simp [fillL]

set_option maxHeartbeats 16000000 in
theorem nandLoads_walk {w : World} (g0 g1 g2 g3 g4 : Int) (A : Option Addr) (c : Nat) (l : List UInt8) (hcap : l.length ≤ c ∧ c ≤ maxLen) (hb : Byts w A l) (hl : l.length ≤ 140737488355328) (f : Int) (wf : (Lit.int .u8 f).wf = true) :
    Calls Try.prog 6 #[.agg #[.int .i64 g0, .int .i64 g1, .int .i64 g2, .int .i64 g3, .int .i64 g4], .slice A l.length c, .int .u8 f] w fun e w' => e = .returned (.bool true) ∧ Below w.heap.size w w' := by
  obtain ⟨w0, rfl⟩ : ∃ w0 : World, w0 = w := ⟨_, rfl⟩
  obtain ⟨fl, rfl⟩ := byte_of (wf_u8 wf)
  clear wf
  have hs0 : w0.heap.size ≤ w0.heap.size := Nat.le_refl _
  have hbx := Blk.new w0 [.int .i64 g0, .int .i64 g1, .int .i64 g2, .int .i64 g3, .int .i64 g4] 23
  have hbel := below_alloc w0 (.cells [.int .i64 g0, .int .i64 g1, .int .i64 g2, .int .i64 g3, .int .i64 g4].toArray 23 (0, 0))
  have hlt0 := hbx.lt
  obtain ⟨sa, sz, gc, gd, ge, hG, hok, hsa1, hsa2, -, hsz1, hsz2, hgc1, hgc2, hgd1, hgd2, hge1, hge2⟩ := playG_is ⟨g0, g1, g2, g3, g4⟩
  have HG := Lib.hid (fun W => play_geometry_as g0 g1 g2 g3 g4 W hG)
  clear hG
  have b0 := hbx.cell 0 _ rfl
  have b1 := hbx.cell 1 _ rfl
  have b2 := hbx.cell 2 _ rfl
  have b3 := hbx.cell 3 _ rfl
  have b4 := hbx.cell 4 _ rfl
  go_enter Try.func6, Try.ntmps6
  go_upto_region 2 with (go_at_call 7; refine (HG.out _).mono ?_; rintro e w1 ⟨rfl, hb1⟩; have hz1 := hbx.below hb1; have e0 := hz1.cell 0 _ rfl; have e1 := hz1.cell 1 _ rfl; have e2 := hz1.cell 2 _ rfl; have e3 := hz1.cell 3 _ rfl; have e4 := hz1.cell 4 _ rfl; have f0 := hz1.frz 0; have f1 := hz1.frz 1; have f2 := hz1.frz 2; have f3 := hz1.frz 3; have f4 := hz1.frz 4; have hs1 := hb1.size)
  have hq := box_turned hz1 (u0 := .int .i64 (sa : Int)) (u1 := .int .i64 (sz : Int)) (u2 := .int .i64 (gc : Int)) (u3 := .int .i64 (gd : Int)) (u4 := .int .i64 (ge : Int))
  have hbq := box_below (hbel.trans (hb1.mono hbel.size)) hs0 (u0 := .int .i64 (sa : Int)) (u1 := .int .i64 (sz : Int)) (u2 := .int .i64 (gc : Int)) (u3 := .int .i64 (gd : Int)) (u4 := .int .i64 (ge : Int))
  clear hz1 e0 e1 e2 e3 e4 f0 f1 f2 f3 f4 b0 b1 b2 b3 b4 hbx hb1 hbel hs1 hlt0
  generalize (((((w1.setCell ⟨w0.heap.size, 0, none⟩ (.int .i64 (sa : Int))).setCell ⟨w0.heap.size, 1, none⟩ (.int .i64 (sz : Int))).setCell ⟨w0.heap.size, 2, none⟩ (.int .i64 (gc : Int))).setCell ⟨w0.heap.size, 3, none⟩ (.int .i64 (gd : Int))).setCell ⟨w0.heap.size, 4, none⟩ (.int .i64 (ge : Int))) = w3 at *
  have hs3 := hq.lt
  obtain ⟨q3, hq3e⟩ : ∃ q, w0.heap.size = q := ⟨_, rfl⟩
  have HQ3 := Lib.hid hq3e
  rw [hq3e] at hq hs3 ⊢
  clear hq3e
  have HQ : Hid (∀ (W : World), Below w3.heap.size w3 W → W.cell? ⟨q3, 0, none⟩ = some (.int .i64 (sa : Int)) ∧ W.cell? ⟨q3, 1, none⟩ = some (.int .i64 (sz : Int)) ∧ W.cell? ⟨q3, 2, none⟩ = some (.int .i64 (gc : Int)) ∧ W.cell? ⟨q3, 3, none⟩ = some (.int .i64 (gd : Int)) ∧ W.cell? ⟨q3, 4, none⟩ = some (.int .i64 (ge : Int))) := fun W h =>
    ⟨(hq.below h).cell 0 _ rfl, (hq.below h).cell 1 _ rfl, (hq.below h).cell 2 _ rfl, (hq.below h).cell 3 _ rfl, (hq.below h).cell 4 _ rfl⟩
  obtain ⟨T, hT⟩ : ∃ T, gc * gd * (ge + 16) = T := ⟨_, rfl⟩
  have hT2 : T ≤ 2496 := by rw [← hT]; exact Nat.le_trans (Nat.mul_le_mul (Nat.mul_le_mul hgc2 hgd2) (by omega : ge + 16 ≤ 52)) (by decide)
  obtain ⟨-, n1, n2, n3⟩ := nand_sizes hok hT
  obtain ⟨M, hM⟩ : ∃ M, gc * gd = M := ⟨_, rfl⟩
  obtain ⟨Z, hZ⟩ : ∃ Z, ge + 16 = Z := ⟨_, rfl⟩
  rw [hM] at n2 n3
  rw [hZ] at n1 n3
  have hM48 : M ≤ 48 := by rw [← hM]; exact Nat.le_trans (Nat.mul_le_mul hgc2 hgd2) (by decide)
  have hZb : 32 ≤ Z ∧ Z ≤ 52 := by omega
  have HMZ := Lib.hid (And.intro hM (And.intro hZ hT))
  have HOK := Lib.hid hok
  obtain ⟨b0, b1, b2, b3, b4⟩ := HQ.out _ (Below.refl _ _)
  have hb3 := hb.below hbq
  have hszq : w3.heap.size ≤ w3.heap.size := Nat.le_refl _
  clear hM hZ hT hb
  go_upto_region 4 with (at_make; go_must (refine wpList_wanted (by rfl) fun K hK => wp_make_byts (B := w3.heap.size) (n := T) _ _ rfl rfl rfl rfl rfl (by omega) hszq ?_; intro gx w4 hgx hown hbel4 hlt4; refine hK _ _ ?_; clear hK K))
  have hmem0 := MemC.of_own hown
  obtain ⟨X, hX⟩ : ∃ X, fillL l fl T = X := ⟨_, rfl⟩
  have hXl : Hid (X.length = T) := by show _ = _; rw [← hX]; exact fillL_length _ _ _
  have hXs : Hid (∀ i, i < T → (X.take i ++ List.replicate (T - i) 0).set i (l.getD i fl) = X.take (i + 1) ++ List.replicate (T - (i + 1)) 0) := fun i hi => by rw [← hX]; exact fillL_step l fl T i hi
  have hmem : MemC w4 gx T (X.take 0 ++ List.replicate (T - 0) 0) := by simpa using hmem0
  clear hown hmem0 hX b0 b1 b2 b3 b4
  go_upto_region 5 with fail
  go_loopw [37] (fun v37 wr => ∃ i : Nat, i ≤ T ∧ v37 = .int .i64 (i : Int) ∧ MemC wr gx T (X.take i ++ List.replicate (T - i) 0) ∧ Below w3.heap.size w3 wr) (fun v37 _ => T - (intOf v37).toNat)
  case atStart => exact ⟨0, Nat.zero_le _, rfl, hmem, hbel4⟩
  case round =>
    clear hmem hbel4
    obtain ⟨i, hi, rfl, hm, hbr⟩ := hrel
    obtain ⟨wo, rfl⟩ : ∃ wo, wo = wr := ⟨_, rfl⟩
    by_cases hlt : i < T
    · have hltI : (i : Int) < (T : Int) := by omega
      have hst := hXs.out i hlt
      have hlen : (X.take i ++ List.replicate (T - i) 0).length = T := by rw [List.length_append, List.length_take, hXl.out, List.length_replicate]; omega
      obtain ⟨u0, hold⟩ : ∃ u : Int, wo.cell? ⟨gx, i, none⟩ = some (.int .u8 u) := ⟨_, hm.get (i := i) (by rw [hlen]; exact hlt)⟩
      have hfz := hm.frz i
      have hms := hm.set i fl
      have hbs : Below w3.heap.size w3 (wo.setCell ⟨gx, i, none⟩ (.int .u8 (fl.toNat : Int))) := hbr.setCell (by simpa using hgx) _
      by_cases hlb : i < l.length
      · have hlbI : (i : Int) < (l.length : Int) := by omega
        have hgd' : l.getD i fl = l[i] := by rw [List.getD_eq_getElem?_getD, List.getElem?_eq_getElem hlb]; rfl
        rw [hgd'] at hst
        have hms2 := hms.set i l[i]
        rw [List.set_set, hst] at hms2
        have hbs2 : Below w3.heap.size w3 ((wo.setCell ⟨gx, i, none⟩ (.int .u8 (fl.toNat : Int))).setCell ⟨gx, i, none⟩ (.int .u8 (l[i].toNat : Int))) := hbs.setCell (by simpa using hgx) _
        obtain ⟨bl, ol, rfl, -⟩ := hb3.at hlb
        have hcb := (hb3.below hbs).cell hlb
        have hcb0 := (hb3.below hbr).cell hlb
        obtain ⟨u2, hold2⟩ : ∃ u : Int, (wo.setCell ⟨gx, i, none⟩ (.int .u8 (fl.toNat : Int))).cell? ⟨gx, i, none⟩ = some (.int .u8 u) := ⟨_, hms.get (i := i) (by rw [List.length_set, hlen]; exact hlt)⟩
        have hfz2 := hms.frz i
        have HX2 := Lib.hid (And.intro hms2 hbs2)
        have hne : bl ≠ gx := by have := World.block_lt_of_cell? w3 _ (hb3.cell hlb); simp only at this; omega
        clear hms hms2 hbs hbs2 hst hm hlen hgd' hbr
        generalize l[i] = y at *
        go_wp2_with fail
        go_roundw
        case rel => exact ⟨i + 1, by omega, by go_num, HX2.out.1, HX2.out.2⟩
        case measure => (simp [intOf] <;> omega)
      · have hlbI : ¬ (i : Int) < (l.length : Int) := by omega
        have hgd' : l.getD i fl = fl := by rw [List.getD_eq_getElem?_getD, List.getElem?_eq_none (by omega)]; rfl
        rw [hgd'] at hst
        rw [hst] at hms
        have HX2 := Lib.hid (And.intro hms hbs)
        clear hms hbs hst hm hlen hgd' hbr
        go_wp2_with fail
        go_roundw
        case rel => exact ⟨i + 1, by omega, by go_num, HX2.out.1, HX2.out.2⟩
        case measure => (simp [intOf] <;> omega)
    · obtain rfl : i = T := by omega
      have hltI : ¬ (i : Int) < (i : Int) := by omega
      have hmX : MemC wo gx i X := by
        rw [Nat.sub_self, List.replicate_zero, List.append_nil] at hm
        have : X.take i = X := by rw [List.take_of_length_le (by rw [hXl.out]; exact Nat.le_refl _)]
        rw [this] at hm
        exact hm
      clear hm hXs hb3 hlt4
      obtain ⟨T, hTi⟩ : ∃ T, i = T := ⟨_, rfl⟩
      rw [hTi] at hmX hXl HMZ n3 hT2 ⊢
      clear hTi hi hltI
      have hgxl := hmX.lt
      have HNW : Hid (∀ (pb : Nat) (W : World), Calls Try.prog 8 #[.agg #[.int .i64 (sa : Int), .int .i64 (sz : Int), .int .i64 (gc : Int), .int .i64 (gd : Int), .int .i64 (ge : Int)], .pointer (some ⟨pb, 0, none⟩)] W fun e w' => ∃ cb m1 m2 m3, e = .returned (.tuple #[.pointer (some ⟨cb, 0, none⟩), .int .i64 0]) ∧ (∀ x ∈ [cb, m1, m2, m3], W.heap.size ≤ x ∧ x < w'.heap.size) ∧
          (∀ L, (∀ x ∈ [cb, m1, m2, m3], x < L) → L ≤ w'.heap.size → NandC w' L cb m1 m2 m3 (some ⟨pb, 0, none⟩) ⟨sa, sz, gc, gd, ge⟩ 0 (nNew ⟨sa, sz, gc, gd, ge⟩)) ∧ Below W.heap.size W w') := fun pb W => nand_new ⟨sa, sz, gc, gd, ge⟩ (some ⟨pb, 0, none⟩) W HOK.out
      have HRW : Hid (∀ (qb : Nat) (W : World), Calls Try.prog 24 #[.agg #[.int .i64 (sa : Int), .int .i64 (sz : Int), .int .i64 (gc : Int), .int .i64 (gd : Int), .int .i64 (ge : Int)], .pointer (some ⟨qb, 0, none⟩)] W fun e w' => Below W.heap.size W w' ∧
          ∃ rb bb nb kb, e = .returned (.tuple #[.pointer (some ⟨rb, 0, none⟩), .int .i64 0]) ∧ (∀ x ∈ [rb, bb, nb, kb], W.heap.size ≤ x) ∧ RNand w' rb bb nb kb (some ⟨qb, 0, none⟩) sa sz gc gd ge (ffs T) 0 (nNew ⟨sa, sz, gc, gd, ge⟩)) := fun qb W => rnand_new sa sz gc gd ge T (some ⟨qb, 0, none⟩) W HOK.out HMZ.out.2.2 (by omega)
      have hX3 := hbr.drew
      have a0 := HQ.out _ hbr
      go_upto_region 11 with fail
      go_region_held3 (fun w' => w'.cell? ⟨q3, 0, none⟩ = some (.int .i64 (sa : Int)) ∧ w'.cell? ⟨q3, 1, none⟩ = some (.int .i64 (sz : Int)) ∧ w'.cell? ⟨q3, 2, none⟩ = some (.int .i64 (gc : Int)) ∧ w'.cell? ⟨q3, 3, none⟩ = some (.int .i64 (gd : Int)) ∧ w'.cell? ⟨q3, 4, none⟩ = some (.int .i64 (ge : Int)))
        (first | (with_reducible exact a0) | exact HQ.out _ hX3)
        (first
          | (go_at_call 9; refine (pow_new _).mono ?_; rintro e w5 ⟨v, rfl, pb, rfl, hpb, hpbl, -, hb5⟩; replace hX3 := hX3.trans (hb5.mono hX3.size))
          | (go_at_call 8; (with_reducible refine (HNW.out _ _).mono ?_); rintro e w6 ⟨cb, m1, m2, m3, rfl, hlt6, hc6, hb6⟩; replace hX3 := hX3.trans (hb6.mono hX3.size)))
      have hC6 := hc6 _ (fun x hx => (hlt6 x hx).2) (Nat.le_refl _)
      have hX46 : Below wo.heap.size wo w6 := ((Below.refl wo.heap.size wo).drew.trans hb5).trans (hb6.mono hb5.size)
      have hlt6' : ∀ x ∈ [cb, m1, m2, m3], wo.heap.size ≤ x ∧ x < w6.heap.size := fun x hx => ⟨Nat.le_trans hb5.size (hlt6 x hx).1, (hlt6 x hx).2⟩
      clear hc6 hlt6 a0 hb5 hb6 hpb hpbl HNW
      have hX36 := hX3
      have hX6 := (Below.refl w6.heap.size w6).drew
      have a0 := HQ.out _ hX36
      replace hX3 := hX3.drew
      go_upto_region 12 with fail
      go_region_held3 (fun w' => w'.cell? ⟨q3, 0, none⟩ = some (.int .i64 (sa : Int)) ∧ w'.cell? ⟨q3, 1, none⟩ = some (.int .i64 (sz : Int)) ∧ w'.cell? ⟨q3, 2, none⟩ = some (.int .i64 (gc : Int)) ∧ w'.cell? ⟨q3, 3, none⟩ = some (.int .i64 (gd : Int)) ∧ w'.cell? ⟨q3, 4, none⟩ = some (.int .i64 (ge : Int)))
        (first | (with_reducible exact a0) | exact HQ.out _ hX3)
        (first
          | (go_at_call 23; refine (rpow_new _).mono ?_; rintro e w7 ⟨v, rfl, qb, rfl, hqb, hqbl, -, hb7⟩; replace hX3 := hX3.trans (hb7.mono hX3.size); replace hX6 := hX6.trans (hb7.mono hX6.size))
          | (go_at_call 24; (with_reducible refine (HRW.out _ _).mono ?_); rintro e w8 ⟨hb8, rb, bb, nb, kb, rfl, hge8, hr8⟩; replace hX3 := hX3.trans (hb8.mono hX3.size); replace hX6 := hX6.trans (hb8.mono hX6.size); have hb78 := hb8.size))
      have hrl : ∀ x ∈ [rb, bb, nb, kb], w6.heap.size ≤ x ∧ x < w8.heap.size := fun x hx => ⟨Nat.le_trans hb7.size (hge8 x hx), hr8.lt x hx⟩
      have hX8 := hX3
      clear hge8 hb7 hb8 hqb hqbl HRW a0 hX36 hX3
      have hmX8 := (hmX.below hX46).below hX6
      have hgx6 : Hid (gx < wo.heap.size ∧ w3.heap.size ≤ gx ∧ wo.heap.size ≤ w6.heap.size ∧ w6.heap.size ≤ w8.heap.size ∧ w3.heap.size ≤ wo.heap.size) := ⟨hgxl, hgx, hX46.size, hX6.size, hbr.size⟩
      have HCL : Hid (∀ W, Below w8.heap.size w8 W → NandC W W.heap.size cb m1 m2 m3 (some ⟨pb, 0, none⟩) ⟨sa, sz, gc, gd, ge⟩ 0 (nNew ⟨sa, sz, gc, gd, ge⟩)) := fun W hW => hC6.raise (hX6.trans (hW.mono hX6.size))
      have hL1 : Hid (∀ W, Below w8.heap.size w8 W → Calls Try.prog 36 #[.pointer (some ⟨cb, 0, none⟩), .slice (some ⟨gx, 0, none⟩) T T] W fun e w' => e = .returned (.int .i64 0) ∧ (∃ L' m1' m2' N', NandC w' L' cb m1' m2' m3 (some ⟨pb, 0, none⟩) ⟨sa, sz, gc, gd, ge⟩ N' (ldTo gd ge X (nNew ⟨sa, sz, gc, gd, ge⟩) (gc * gd)) ∧ W.heap.size ≤ m1' ∧ W.heap.size ≤ m2' ∧ W.heap.size ≤ L') ∧ Only [cb] W w') := fun W hW =>
        nand_load (HCL.out W hW) (by omega) (some ⟨gx, 0, none⟩) T T X (hmX8.read.below hW) HMZ.out.2.2 hXl.out ⟨Nat.le_refl _, by unfold maxLen; omega⟩ (fun a e _ => by cases e; have := (hlt6' cb (by simp)).1; show gx ≠ cb; omega)
      have hL2 : Hid (∀ W, RNand W rb bb nb kb (some ⟨qb, 0, none⟩) sa sz gc gd ge (ffs T) 0 (nNew ⟨sa, sz, gc, gd, ge⟩) → Byts W (some ⟨gx, 0, none⟩) X → Calls Try.prog 37 #[.pointer (some ⟨rb, 0, none⟩), .slice (some ⟨gx, 0, none⟩) T T] W fun e w' => e = .returned (.int .i64 0) ∧ (Blk w' nb 3 (cntCells gc (ldTo gd ge X (nNew ⟨sa, sz, gc, gd, ge⟩) (gc * gd)).nx) ∧ w'.cell? ⟨rb, 7, none⟩ = some (.slice (some ⟨nb, 0, none⟩) gc gc)) ∧ Only [rb, nb] W w') := fun W h hy =>
        rnand_load h (fun _ => rfl) (fun _ => rfl) (some ⟨gx, 0, none⟩) T T X hy HMZ.out.2.2 hXl.out ⟨Nat.le_refl _, by unfold maxLen; omega⟩ (fun a e _ => by cases e; have h1 := (hrl rb (by simp)).1; have h2 := (hrl nb (by simp)).1; have := hgx6.out; simp; omega)
      have hcbs := hlt6' cb (by simp)
      have hm3s := hlt6' m3 (by simp)
      have hrbs := hrl rb (by simp)
      have hnbs := hrl nb (by simp)
      go_upto_region 15 with (first
        | (go_at_call 10; refine (awake05 _).mono ?_; rintro e w9 ⟨rfl, hb9⟩; have hr9 := hr8.below hb9; have hm9 := hmX8.below hb9; have hs9 := hb9.size)
        | (go_at_call 36; (with_reducible refine (hL1.out _ hb9).mono ?_); rintro e w10 ⟨rfl, hx10, ho10⟩; have hr10 := hr9.only ho10 (fun x hx hx2 => by simp at hx2; have := (hrl x hx).1; omega); have hm10 := hm9.only ho10 (by have := hgx6.out; simp; omega))
        | (go_at_call 37; (with_reducible refine (hL2.out _ hr10 hm10.read).mono ?_); rintro e w11 ⟨rfl, hx11, ho11⟩))
      obtain ⟨L', k1, k2, N', hC10, hk1, hk2, hL'⟩ := hx10
      obtain ⟨hnb11, c711⟩ := hx11
      have hm11 := hm10.only ho11 (by have := hgx6.out; simp; omega)
      have hC11 := hC10.only ho11 (fun x hx hx2 => by simp at hx hx2; omega) (fun x hx => by simp at hx; omega)
      have hX11 : Below w3.heap.size w3 w11 := by
        have h9 := hX8.trans (hb9.mono hX8.size)
        have h10 := h9.trans (ho10.below (fun x hx => by simp at hx; have := hgx6.out; omega) h9.size)
        exact h10.trans (ho11.below (fun x hx => by simp at hx; have := hgx6.out; omega) h10.size)
      have hPG : Hid (∀ b p : Nat, p < gd → b * gd + p < M → (ldTo gd ge X (nNew ⟨sa, sz, gc, gd, ge⟩) M).pg (b : Int) (p : Int) = ((chunk X Z (b * gd + p)).take ge, (chunk X Z (b * gd + p)).drop ge)) := fun b p hp hbp => by
        have h1 := HMZ.out.1
        have h2 := HMZ.out.2.1
        have := ldTo_pg (C := gc) (D := gd) (E := ge) (x := X) (n0 := nNew ⟨sa, sz, gc, gd, ge⟩) (by omega) (by rw [hXl.out, ← HMZ.out.2.2]) (fun _ _ => by show blankP _ = _; unfold blankP; simp) M (by omega) b p hp
        rw [if_pos hbp, h2] at this
        exact this
      rw [HMZ.out.1] at hC11 hnb11
      obtain ⟨nl, hnl⟩ : ∃ nl, ldTo gd ge X (nNew ⟨sa, sz, gc, gd, ge⟩) M = nl := ⟨_, rfl⟩
      rw [hnl] at hC11 hnb11 hPG
      have HWC : Hid (∀ W, Below w11.heap.size w11 W → NandC W L' cb k1 k2 m3 (some ⟨pb, 0, none⟩) ⟨sa, sz, gc, gd, ge⟩ N' nl ∧ Blk W nb 3 (cntCells gc nl.nx) ∧ W.cell? ⟨rb, 7, none⟩ = some (.slice (some ⟨nb, 0, none⟩) gc gc) ∧ Byts W (some ⟨gx, 0, none⟩) X ∧ Below w3.heap.size w3 W) := fun W hW =>
        ⟨hC11.below hW, hnb11.belowR hW, (hW.cell (p := ⟨rb, 7, none⟩) (World.block_lt_of_cell? w11 _ c711)).trans c711, hm11.read.below hW, hX11.trans (hW.mono hX11.size)⟩
      clear hnl hC11 hnb11 c711 hm11 hX11 hC10 ho11 ho10 hm10 hm9 hr9 hr10 hb9 hs9 hk1 hk2 hL' hL1 hL2 hmX8 hX8 hX46 hX6 hmX hr8 hC6 HCL hlt6' hrl hbr
      go_upto_region 16 with fail
      go_loopw [14] (fun v14 wr => ∃ j : Nat, j ≤ M ∧ v14 = .int .i64 (j : Int) ∧ Below w11.heap.size w11 wr) (fun v14 _ => M - (intOf v14).toNat)
      case atStart => exact ⟨0, Nat.zero_le _, rfl, Below.refl _ _⟩
      case round =>
        obtain ⟨j, hj, rfl, hbj⟩ := hrel
        obtain ⟨wi, rfl⟩ : ∃ wi, wi = wr := ⟨_, rfl⟩
        obtain ⟨-, -, -, -, hbj3⟩ := HWC.out _ hbj
        obtain ⟨-, -, c2, c3, -⟩ := HQ.out _ hbj3
        by_cases hltj : j < M
        · have hltjI : (j : Int) < (M : Int) := by omega
          obtain ⟨qd, hqd⟩ : ∃ q, j / gd = q := ⟨_, rfl⟩
          obtain ⟨rm, hrm⟩ : ∃ q, j % gd = q := ⟨_, rfl⟩
          have hgd0 : (gd : Int) ≠ 0 := by omega
          have hgd0' : gd ≠ 0 := by omega
          have hrml : rm < gd := by rw [← hrm]; exact Nat.mod_lt _ (by omega)
          have hqc : qd < gc := by
            rw [← hqd]
            exact (Nat.div_lt_iff_lt_mul (by omega)).2 (by have := HMZ.out.1; omega)
          have hjq : qd * gd + rm = j := by
            have := Nat.div_add_mod j gd
            rw [hqd, hrm, Nat.mul_comm] at this
            exact this
          have hok2 : nOk ⟨sa, sz, gc, gd, ge⟩ (qd : Int) (rm : Int) := by unfold nOk; refine ⟨⟨Int.natCast_nonneg _, ?_⟩, Int.natCast_nonneg _, ?_⟩ <;> (show _ < _; simp only; omega)
          have hpj := hPG.out qd rm hrml (by omega)
          rw [hjq] at hpj
          obtain ⟨ch, hch⟩ : ∃ ch, chunk X Z j = ch := ⟨_, rfl⟩
          have hchl : ch.length = Z := by rw [← hch]; exact chunk_len (M := M) (by rw [hXl.out, ← HMZ.out.2.2, HMZ.out.1, HMZ.out.2.1]) hltj
          obtain ⟨o, hoj⟩ : ∃ o, j * Z = o := ⟨_, rfl⟩
          have hoT : o + Z ≤ T := by
            rw [← HMZ.out.2.2, HMZ.out.1, HMZ.out.2.1, ← hoj, ← Nat.succ_mul]
            exact Nat.mul_le_mul_right _ hltj
          rw [hch] at hpj
          have hlt1 : (ch.take ge).length = ge := by rw [List.length_take, hchl]; have := HMZ.out.2.1; omega
          have hlt2 : (ch.drop ge).length = 16 := by rw [List.length_drop, hchl]; have := HMZ.out.2.1; omega
          have hrd : nRead ⟨sa, sz, gc, gd, ge⟩ nl (qd : Int) (rm : Int) = (ch.take ge, ch.drop ge) := by unfold nRead; rw [if_pos hok2, hpj]
          have HRD : Hid (∀ W, Below w11.heap.size w11 W → Calls Try.prog 15 #[.pointer (some ⟨cb, 0, none⟩), .int .i64 (qd : Int), .int .i64 (rm : Int)] W fun e w' => ∃ A1 c1 A2 c2, e = .returned (.tuple #[.slice A1 ge c1, .slice A2 16 c2, .int .i64 0]) ∧ RowF w' W.heap.size (.slice A1 ge c1) (ch.take ge) ∧ RowF w' W.heap.size (.slice A2 16 c2) (ch.drop ge) ∧ Below W.heap.size W w') := fun W hW => by
            have h1 := nand_read (HWC.out W hW).1 (qd : Int) (rm : Int) (k1 := ge) (k2 := 16) (by rw [hrd]; exact hlt1) (by rw [hrd]; exact hlt2)
            rw [hrd, nAsk_pos hok2] at h1
            exact h1
          have hXo : Hid (∀ W, Below w11.heap.size w11 W → Byts W (some ⟨gx, o, none⟩) ch) := fun W hW => by
            have := ((HWC.out W hW).2.2.2.1.drop o).take Z
            rw [Nat.zero_add, ← hoj] at this
            rw [← hch, ← hoj]
            exact this
          have hd0 : (j : Int) / (gd : Int) = (qd : Int) := by rw [← hqd]; push_cast; rfl
          have hm0 : (j : Int) % (gd : Int) = (rm : Int) := by rw [← hrm]; push_cast; rfl
          have hd1 : (j : Int).tdiv (gd : Int) = (qd : Int) := by rw [Int.tdiv_eq_ediv_of_nonneg (Int.natCast_nonneg _)]; exact hd0
          have hm1 : (j : Int).tmod (gd : Int) = (rm : Int) := by rw [Int.tmod_eq_emod_of_nonneg (Int.natCast_nonneg _)]; exact hm0
          have hw1 : IntKind.i64.wrap (qd : Int) = (qd : Int) := IntWalk.i64_in _ (by omega)
          have hwo1 : IntKind.i64.wrap ((j : Int) * (Z : Int)) = (o : Int) := by rw [← Int.natCast_mul, hoj]; exact IntWalk.i64_in _ (by omega)
          have hwo2 : IntKind.i64.wrap ((j : Int) + 1) = (j : Int) + 1 := IntWalk.i64_in _ (by omega)
          obtain ⟨o2, ho2⟩ : ∃ o2, o + Z = o2 := ⟨_, rfl⟩
          have hwo3 : IntKind.i64.wrap (((j : Int) + 1) * (Z : Int)) = (o2 : Int) := by
            have : ((j : Int) + 1) * (Z : Int) = (o2 : Int) := by rw [Int.add_mul, Int.one_mul, ← Int.natCast_mul, hoj, ← ho2]; push_cast; rfl
            rw [this]; exact IntWalk.i64_in _ (by omega)
          have ho2z : o2 - o = Z := by omega
          have HO2 := Lib.hid ho2z
          clear ho2z
          have p0 : (0 : Int) ≤ (o : Int) := by omega
          have p1 : (o : Int) ≤ (o2 : Int) := by omega
          have p2 : (o2 : Int) ≤ (T : Int) := by omega
          have p3 : ¬ T = o := by omega
          have p4 : (0 : Int) ≤ (o2 : Int) := by omega
          have hqcI : (qd : Int) < (gc : Int) := by omega
          have hqd0 : (0 : Int) ≤ (qd : Int) := by omega
          have hbjd := hbj.drew
          have s0 := c3
          have s0d : wi.drew.cell? ⟨q3, 3, none⟩ = some (.int .i64 (gd : Int)) := c3
          have HCH := Lib.hid (And.intro hchl (And.intro hlt1 hlt2))
          have HSS : Hid (∀ W, Below w11.heap.size w11 W → W.cell? ⟨q3, 3, none⟩ = some (.int .i64 (gd : Int)) ∧ W.cell? ⟨rb, 7, none⟩ = some (.slice (some ⟨nb, 0, none⟩) gc gc) ∧ W.cell? ⟨nb, qd, none⟩ = some (.int .i64 (nl.nx (qd : Int)))) := fun W hW => by
            obtain ⟨-, h2, h3, -, h5⟩ := HWC.out W hW
            exact ⟨(HQ.out _ h5).2.2.2.1, h3, h2.cell qd _ (cntCells_get hqc)⟩
          have HPR : Hid (∀ W, Below w11.heap.size w11 W → Calls Try.prog 14 #[.pointer (some ⟨cb, 0, none⟩), .int .i64 (qd : Int)] W fun e w' => e = .returned (.int .i64 (nl.nx (qd : Int))) ∧ W = w') := fun W hW => nand_programmed (HWC.out W hW).1 (qd : Int) ⟨by omega, by omega⟩
          have HBT : Hid (∀ W A1 c1, Below w11.heap.size w11 W → Byts W A1 ch → Calls Try.prog 16 #[.slice A1 Z c1, .slice (some ⟨gx, o, none⟩) (o2 - o) (T - o)] W fun e w' => e = .returned (.bool true) ∧ W = w') := fun W A1 c1 hW h1 => by
            have h2 := help_bytes A1 Z c1 ch (some ⟨gx, o, none⟩) (o2 - o) (T - o) ch W h1 HCH.out.1.symm (hXo.out W hW) (by rw [HO2.out]; exact HCH.out.1.symm)
            rw [beq_self_eq_true] at h2
            exact h2
          generalize nl.nx (qd : Int) = cn at *
          have hcn : (cn != cn) = false := by simp
          clear hqd hrm hjq hok2 hpj hch hchl hoj hlt1 hlt2 hrd ho2
          have hw2 : wrap64 (qd : Int) = (qd : Int) := by have := hqcI; unfold wrap64; omega
          go_upto_region 18 with fail
          go_region_held3 (fun w' => w'.cell? ⟨q3, 3, none⟩ = some (.int .i64 (gd : Int)))
            (first | (with_reducible exact s1) | (with_reducible exact s0d) | (with_reducible exact s0))
            (first
              | (go_at_call 15; (with_reducible refine (HRD.out _ hbjd).mono ?_); rintro e w8 ⟨A1, c1, A2, c2', rfl, hr1, hr2, hx⟩; have hb8 := hbjd.trans (hx.mono hbjd.size); have s1 := (HSS.out _ hb8).1))
          clear s0 s0d s1 c2 c3
          have hb8d := hb8.drew
          have S0 := HSS.out _ hb8
          have S1 := HSS.out _ hb8d
          have hB8 : w11.heap.size ≤ wi.drew.heap.size := hbjd.size
          have hr1d := hr1.below (Below.refl _ _).drew
          obtain ⟨B2, d2, e2, -, hy2, -⟩ := hr2.byts
          simp only [Value.slice.injEq] at e2
          obtain ⟨rfl, -, -⟩ := e2
          have hy2d := hy2.below (Below.refl _ _).drew
          have hxs : wi.drew.heap.size ≤ w8.drew.heap.size := hx.size
          clear hr1 hr2 hy2
          go_upto_region 19 with fail
          go_region_held3 (fun w' => w'.cell? ⟨q3, 3, none⟩ = some (.int .i64 (gd : Int)) ∧ w'.cell? ⟨rb, 7, none⟩ = some (.slice (some ⟨nb, 0, none⟩) gc gc) ∧ w'.cell? ⟨nb, qd, none⟩ = some (.int .i64 cn))
            (first | (with_reducible exact S0) | (with_reducible exact S1) | (with_reducible exact S2))
            (first
              | (refine step_append_rowF (B := wi.drew.heap.size) (by rfl) _ _ rfl (l := ch.take ge) (m := ch.drop ge) rfl rfl hr1d hy2d HCH.out.2.2.symm (by rw [HCH.out.2.2]; omega) (by rw [HCH.out.2.1]; omega) (by rw [HCH.out.2.1, HCH.out.2.2]; omega) hxs ?_; intro A9 c9 w9 hy9 hb9; rw [List.take_append_drop] at hy9 ⊢; rw [HCH.out.1]; have hb9' := hb8d.trans (hb9.mono hB8); have S2 := HSS.out _ hb9')
              | (go_at_call 16; (with_reducible refine (HBT.out _ _ _ hb9' hy9).mono ?_); rintro e w' ⟨rfl, rfl⟩)
              | (go_at_call 14; (with_reducible refine (HPR.out _ hb9').mono ?_); rintro e w' ⟨rfl, rfl⟩))
          all_goals
            clear S0 S1 S2 HRD HBT HPR hb8d hb8 hxs hr1d hy2d hy9 hb9 hx
            go_wp2_with fail
            go_roundw
            · exact ⟨j + 1, by omega, by go_num, hb9'⟩
            · (simp [intOf] <;> omega)
        · obtain rfl : j = M := by omega
          have hltjI : ¬ (j : Int) < (j : Int) := by omega
          have hCf := (HWC.out _ hbj).1
          have hM0 : 0 < gc * gd := Nat.mul_pos (by omega) (by omega)
          have hT0 : Z ≤ T := by rw [← HMZ.out.2.2, HMZ.out.2.1]; exact Nat.le_mul_of_pos_left _ hM0
          have hLB : Hid (Calls Try.prog 36 #[.pointer (some ⟨cb, 0, none⟩), .slice (some ⟨gx, 1, none⟩) (T - 1) (T - 1)] wi fun e w' => e = .returned (.int .i64 1) ∧ ∃ d, w' = wi.drewN d) := nand_load_bad hCf _ _ _ (by rw [HMZ.out.2.2]; omega)
          have hbel0 : Below w0.heap.size w0 wi := hbq.trans (hbj3.mono hbq.size)
          have t0 : (1 : Int) ≤ (T : Int) := by omega
          have t1 : ¬ T = 1 := by omega
          have HB := Lib.hid hbel0
          clear hCf HWC hbj hbj3 hbel0
          go_wp2_with (first
            | (go_at_call 15; (with_reducible refine (nand_read_nil _ _ _).mono ?_); rintro e w' ⟨rfl, rfl⟩)
            | (go_at_call 36; (with_reducible refine hLB.out.mono ?_); rintro e w' ⟨rfl, dd, rfl⟩)
            | (go_at_call 36; (with_reducible refine (nand_load_nil _ _).mono ?_); rintro e w' ⟨rfl, rfl⟩)
            | (go_at_call 12; (with_reducible refine (nand_program_nil _ _ _ _ _).mono ?_); rintro e w' ⟨rfl, rfl⟩)
            | (go_at_call 13; (with_reducible refine (nand_erase_nil _ _).mono ?_); rintro e w' ⟨rfl, rfl⟩)
            | (go_at_call 14; (with_reducible refine (nand_programmed_nil _ _).mono ?_); rintro e w' ⟨rfl, rfl⟩)
            | (go_at_call 22; (with_reducible refine (nand_erases_nil _ _).mono ?_); rintro e w' ⟨rfl, rfl⟩)
            | (go_at_call 26; (with_reducible refine (nand_power_nil _).mono ?_); rintro e w' ⟨rfl, rfl⟩)
            | (go_at_call 25; (with_reducible refine (nand_geometry_nil).mono ?_); rintro e w12 ⟨rfl, hb12⟩; have hb12' := (below_drewN HB.out dd).trans (hb12.mono (below_drewN HB.out dd).size)))
          go_ret
          exact ⟨rfl, hb12'⟩
end Go.Proofs.Ytionjddcahgpkaa
