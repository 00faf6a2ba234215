/- The walk of SumSeen: true for every input. -/
import Derived.Test.YtcdbndgmfjlmbaaLawSum
import Derived.Test.YtcdbndgmfjlmbaaOwn
import Derived.Test.YtcdbndgmfjlmbaaSumP
import Derived.Deep.QuietTactic
import Derived.BigQuiet
import Derived.Outline
import Derived.Deep.RegionHeld3
import Derived.Deep.DeepCutAuto
import Derived.Deep.CutBlock
import Derived.RegionTactic
set_option linter.unusedVariables false
namespace Go.Proofs.Ytcdbndgmfjlmbaa
open Go.RowKit

set_option maxRecDepth 100000 in
set_option maxHeartbeats 1000000 in
theorem sumSeen_walk {w : World} (A : Option Addr) (c : Nat) (l : List UInt8) (hcap : l.length ≤ c ∧ c ≤ maxLen) (hb : Byts w A l) (hl : l.length ≤ 140737488351232)
    (at_ : Int) (wat : (Lit.int .i64 at_).wf = true) (other : Int) (wother : (Lit.int .i64 other).wf = true) (by_ : Int) (wby : (Lit.int .u8 by_).wf = true) :
    Calls Try.prog 4 #[.slice A l.length c, .int .i64 at_, .int .i64 other, .int .u8 by_] w fun e w' => e = .returned (.bool true) ∧ Below w.heap.size w w' := by
  by_cases h1 : (l.length : Int) < 2
  · go_enter Try.func4, Try.ntmps4
    go_wp2_with (go_at_call 15; refine (awake02 _).mono ?_; rintro e w' ⟨rfl, hbel⟩)
    go_ret
    exact ⟨rfl, hbel⟩
  by_cases h2 : (200 : Int) < l.length
  · go_enter Try.func4, Try.ntmps4
    go_wp2_with (go_at_call 15; refine (awake02 _).mono ?_; rintro e w' ⟨rfl, hbel⟩)
    go_ret
    exact ⟨rfl, hbel⟩
  clear hcap
  have hl0 : 0 < l.length := by omega
  obtain ⟨b, off, rfl, hbl⟩ : ∃ b off, A = some ⟨b, off, none⟩ ∧ b < w.heap.size := by
    obtain ⟨b, off, rfl, hc⟩ := hb.at hl0
    exact ⟨b, off, rfl, World.block_lt_of_cell? w _ hc⟩
  obtain ⟨i, hi, hil⟩ : ∃ i : Nat, wrap64 ((IntKind.u64.wrap at_).tmod ↑l.length) = (i : Int) ∧ i < l.length := mod_len at_ l.length hl0 (by omega)
  obtain ⟨k, hk, hkl⟩ : ∃ k : Nat, wrap64 ((IntKind.u64.wrap other).tmod ↑l.length) = (k : Int) ∧ k < l.length := mod_len other l.length hl0 (by omega)
  obtain ⟨y, rfl⟩ : ∃ y : UInt8, by_ = (y.toNat : Int) := byte_of (wf_u8 wby)
  clear wat wother
  have Hi := Lib.hid hi
  have Hk := Lib.hid hk
  clear hi hk
  go_enter Try.func4, Try.ntmps4
  go_wp2_with fail
  go_quiet (fail)
  rw [Hi.out, Hk.out]
  have hB : Below w.heap.size w (w.drewN nq) := below_drewN (Below.refl _ _) _
  have hb0 : Byts (w.drewN nq) (some ⟨b, off, none⟩) l := hb.below hB
  have hs0 : w.heap.size ≤ (w.drewN nq).heap.size := hB.size
  clear hb
  generalize w.drewN nq = w0 at *
  go_upto_region 6 with (at_builtin; (refine wpList_clone_byts (by rfl) _ rfl rfl hb0 rfl (by omega) hs0 ?_); intro vx w1 hx hg1 hp1; obtain ⟨gx, cx, rfl, hcx, hBx, hgx, hcellx, hfx⟩ := hx.form hl0; have hxi := hcellx i hil; have hfi := hfx i; have hb1 := hb0.below hg1; have hbel1 := hB.trans (hg1.mono hs0); clear hcellx hfx hg1 hp1 hb0 hs0 hB)
  rw [xor_u8]
  have hx2 := hx.set i (l[i] ^^^ y)
  have hb2 := hb1.far ⟨gx, i, none⟩ (.int .u8 ((l[i] ^^^ y).toNat : Int)) (fun x hx => by cases hx; simp; omega)
  have hbel2 := hbel1.setCell (p := ⟨gx, i, none⟩) hBx (.int .u8 ((l[i] ^^^ y).toNat : Int))
  have hgx2 : gx < (w1.setCell ⟨gx, i, none⟩ (.int .u8 ((l[i] ^^^ y).toNat : Int))).heap.size := by simpa [World.setCell] using hgx
  clear hx hb1 hbel1 hgx hxi hfi
  generalize w1.setCell ⟨gx, i, none⟩ (.int .u8 ((l[i] ^^^ y).toNat : Int)) = w2 at *
  have hs2 : w.heap.size ≤ w2.heap.size := hbel2.size
  go_upto_region 7 with (at_builtin; (refine wpList_clone_byts (by rfl) _ rfl rfl hb2 rfl (by omega) hs2 ?_); intro vy w3 hy hg3 hp3)
  obtain ⟨gy, cy, rfl, hcy, hBy, hgy, hcelly, hfy⟩ := hy.form hl0
  have hne : gx ≠ gy := by
    have := hp3 gy rfl; omega
  have hx3 := hx2.below hg3
  have hyi := hcelly i hil
  have hyk := hcelly k hkl
  have hfi := hfy i
  have hfk := hfy k
  have hb3 := hb2.below hg3
  have hbel3 := hbel2.trans (hg3.mono hs2)
  clear hcelly hfy hg3 hp3 hb2 hs2 hbel2 hx2 hgx2
  have hy4 := hy.set i l[k]
  have hv4 := hy4.cell (i := k) (by simpa using hkl)
  have hf4 := hy4.frz k
  go_region
  have hy5 := hy4.set k l[i]
  have hx5 := (hx3.far ⟨gy, i, none⟩ (.int .u8 (l[k].toNat : Int)) (by simpa [Value.ownBlock] using hne)).far ⟨gy, k, none⟩ (.int .u8 (l[i].toNat : Int)) (by simpa [Value.ownBlock] using hne)
  have hb5 := (hb3.far ⟨gy, i, none⟩ (.int .u8 (l[k].toNat : Int)) (fun x hx => by cases hx; simp; omega)).far ⟨gy, k, none⟩ (.int .u8 (l[i].toNat : Int)) (fun x hx => by cases hx; simp; omega)
  have hbel5 := (hbel3.setCell (p := ⟨gy, i, none⟩) hBy (.int .u8 (l[k].toNat : Int))).setCell (p := ⟨gy, k, none⟩) hBy (.int .u8 (l[i].toNat : Int))
  clear hx3 hy hy4 hb3 hbel3 hyi hyk hfi hfk hv4 hf4 hgy
  obtain ⟨w4, hw4⟩ : ∃ w4, w4 = ((w3.setCell ⟨gy, i, none⟩ (.int .u8 (l[k].toNat : Int))).setCell ⟨gy, k, none⟩ (.int .u8 (l[i].toNat : Int))).drew := ⟨_, rfl⟩
  rw [← hw4]
  replace hb5 : Byts w4.drew (some ⟨b, off, none⟩) l := by rw [hw4]; exact hb5
  replace hx5 : Own w4.drew w.heap.size (Value.slice (some ⟨gx, 0, none⟩) l.length cx) (l.set i (l[i] ^^^ y)) := by rw [hw4]; exact hx5
  replace hy5 : Own w4.drew w.heap.size (Value.slice (some ⟨gy, 0, none⟩) l.length cy) ((l.set i l[k]).set k l[i]) := by rw [hw4]; exact hy5
  replace hbel5 : Below w.heap.size w w4.drew := by rw [hw4]; exact hbel5.drew.drew
  clear hw4
  have hbx5 : Byts w4.drew (some ⟨gx, 0, none⟩) (l.set i (l[i] ^^^ y)) := hx5.read
  have hby5 : Byts w4.drew (some ⟨gy, 0, none⟩) ((l.set i l[k]).set k l[i]) := hy5.read
  have elx : l.length = (l.set i (l[i] ^^^ y)).length := by simp
  have ely : l.length = ((l.set i l[k]).set k l[i]).length := by simp
  have Elx := Lib.hid elx
  have Ely := Lib.hid ely
  obtain ⟨q1, h67, h69⟩ : ∃ q : Bool, ((sumN (l.set i (l[i] ^^^ y)) : Int) == (sumN l : Int)) = q ∧ (((y.toNat : Nat) : Int) == 0) = q := ⟨_, rfl, (seen_one l i hil (by omega) y).symm⟩
  obtain ⟨q2, h77, h86⟩ : ∃ q : Bool, ((sumN ((l.set i l[k]).set k l[i]) : Int) == (sumN l : Int)) = q ∧ ((l[i].toNat : Int) == (l[k].toNat : Int)) = q := ⟨_, rfl, (seen_two l i k hil hkl (by omega)).symm⟩
  have h98 : ((sumN (l ++ [y]) : Int) != (sumN l : Int)) = true := seen_more l (by omega) y
  clear elx ely hx5 hy5
  generalize (l.set i (l[i] ^^^ y)) = lx at *
  generalize ((l.set i l[k]).set k l[i]) = ly at *
  have hml : l.length ≤ maxLen := by unfold maxLen; omega
  have hmx : lx.length ≤ maxLen := by rw [← Elx.out]; exact hml
  have hmy : ly.length ≤ maxLen := by rw [← Ely.out]; exact hml
  have hmz : (l ++ [y]).length ≤ maxLen := by simp; unfold maxLen; omega
  have hz1 : l.length + [y].length ≤ 140737488355328 := by simp; omega
  have elz : l.length + 1 = (l ++ [y]).length := by simp
  have Elz := Lib.hid elz
  clear elz
  generalize hlz : l ++ [y] = lz at *
  have Hlz := Lib.hid hlz
  clear hlz
  have hsz4 := hbel5.size
  go_wp2_with fail
  have t1 := Byts.cell hb5 hil
  have t2 := Byts.cell hb5 hkl
  go_region_held3 (fun w' => w'.cell? ⟨b, off + i, none⟩ = some (.int .u8 (l[i].toNat : Int)) ∧ w'.cell? ⟨b, off + k, none⟩ = some (.int .u8 (l[k].toNat : Int)))
    (first | exact ⟨t1, t2⟩ | go_keep)
    (first | (go_at_call 15; refine (awake02 _).mono ?_; rintro e w5 ⟨rfl, hbel6⟩; have hb6 := hb5.below hbel6; have hbx6 := hbx5.below hbel6; have hby6 := hby5.below hbel6; have hbelW := hbel5.trans (hbel6.mono hsz4); have hszW := hbelW.size; clear hbel5 hsz4; replace t1 := Byts.cell hb6 hil; replace t2 := Byts.cell hb6 hkl; clear hb5 hbx5 hby5) | (go_at_call 16; refine (sum_of _ _ _ _ _ (by assumption) (by first | rfl | exact Elx.out | exact Ely.out | exact Elz.out) (by assumption)).mono ?_; rintro e w' ⟨rfl, rfl⟩) |
      (refine step_clone_byts (B := w.heap.size) (by rfl) _ rfl rfl (m := l) (by first | exact hb6 | exact hb6.alloc _) rfl (by omega) (by first | exact hszW | (simp; omega)) ?_; intro vz w7 hz hbz hpz; have hb7 : Byts w7 (some ⟨b, off, none⟩) l := (by first | exact hb6.below hbz | exact (hb6.alloc _).below hbz); (try (have hs7 := (byts_one w5 y).below hbz)); have hbelV : Below w.heap.size w w7 := (by first | exact hbelW.trans (hbz.mono hszW) | exact (hbelW.alloc hszW _).trans (hbz.mono (by simp; omega))); have hszV := hbelV.size; replace t1 := Byts.cell hb7 hil; replace t2 := Byts.cell hb7 hkl; obtain ⟨gz, cz, rfl, hcz, hBz, hgz, _, _⟩ := hz.form hl0; clear hb6 hbelW hszW hbz hpz) |
      (refine step_append_byts (B := w.heap.size) (by rfl) _ _ rfl rfl (v := .slice (some ⟨gz, 0, none⟩) l.length cz) rfl (by first | exact hz | exact hz.alloc _) (by first | exact hs7 | exact byts_one _ _) rfl hz1 (by first | exact hszV | (simp; omega)) ?_; intro vq w8 hq hgq hpq; have hb8 : Byts w8 (some ⟨b, off, none⟩) l := (by first | exact hb7.grown hgq (fun x hx => by cases hx; simp [Value.ownBlock]; omega) | exact (hb7.alloc _).grown hgq (fun x hx => by cases hx; simp [Value.ownBlock]; omega)); have hbelU : Below w.heap.size w w8 := (by first | exact hbelV.grown hgq hszV (fun k e => by cases e; exact hBz) | exact (hbelV.alloc hszV _).grown hgq (by simp; omega) (fun k e => by cases e; exact hBz)); rw [Hlz.out] at hq; obtain ⟨gq, cq, rfl, hcq, _, _, _, _⟩ := hq.form (by rw [← Elz.out]; omega); have hbq8 := hq.read; rw [← Elz.out]; replace t1 := Byts.cell hb8 hil; replace t2 := Byts.cell hb8 hkl; clear hb7 hbelV hszV hgq hpq hz))
  all_goals go_wp2_with fail
  all_goals go_ret
  all_goals exact ⟨rfl, by first | exact hbelU | exact hbelU.drew⟩
end Go.Proofs.Ytcdbndgmfjlmbaa
