/- The walks of the laws on halves of a chip: what all of them begin with, and HalfRoom. -/
import Derived.Test.YtcdgpioljilgeaaHalfQ
import Derived.Test.YtcdgpioljilgeaaRefHalf
import Derived.Test.YtcdgpioljilgeaaScan
import Derived.Deep.RegionHeld3
set_option linter.unusedVariables false
set_option maxRecDepth 100000
set_option linter.unusedSimpArgs false
namespace Go.Proofs.Ytcdgpioljilgeaa
open Go.RowKit

theorem smallG_half : halfN smallG = 256 := by decide

set_option maxHeartbeats 2000000 in
theorem awake08 (w : World) : Calls Try.prog 51 #[] w fun e w' => e = .returned (.bool true) ∧ Below w.heap.size w w' := by
  obtain ⟨w0, rfl⟩ : ∃ w0 : World, w0 = w := ⟨_, rfl⟩
  have hs0 : w0.heap.size ≤ w0.heap.size := Nat.le_refl _
  have e0 : ffs 512 = ffs 256 ++ ([] ++ (ffs 256 ++ [])) := by rw [List.append_nil, List.nil_append, ffs_append]
  have P1 := app_run (g := smallG) (s := PS.new) (x := 1) (U := ffs 256) (P := []) (T := []) (bs := [7]) (R := 256) (m := 1) (Or.inr rfl) (by rw [smallG_half, ffs_length]; decide) (by rw [smallG_half]; decide) rfl (by decide) rfl (by decide) (Or.inl (by decide))
  rw [← e0] at P1
  have P2 := halfL_is (g := smallG) (x := 1) (Or.inr rfl) (ffs 256) (recL [7] ++ ffs (256 - (1 + 7))) [] (by rw [smallG_half, ffs_length]; decide) (by rw [smallG_half, List.length_append, ffs_length, recL_length]; decide)
  rw [List.append_nil] at P2
  simp only [List.nil_append, List.append_nil] at P1
  have P3 := recs_a [7] (ffs (256 - (1 + 7))) (by simp) (nextF_ff _)
  have L3 : (recL [7] ++ ffs (256 - (1 + 7))).length = 256 := by rw [List.length_append, ffs_length, recL_length]; decide
  generalize ffs 256 ++ (recL [7] ++ ffs (256 - (1 + 7))) = l1 at *
  generalize recL [7] ++ ffs (256 - (1 + 7)) = l2 at *
  replace P1 := Lib.hid P1
  replace P2 := Lib.hid P2
  replace P3 := Lib.hid P3
  replace L3 := Lib.hid L3
  have A3 := Lib.hid (show halfA 1 = 0 by decide)
  have hok := smallG_ok
  have HN := Lib.hid smallG_size
  have HH := Lib.hid smallG_half
  clear e0
  go_enter Try.func51, Try.ntmps51
  go_upto_region 2 with (first
    | (go_at_call 16; refine (play_small _).mono ?_; rintro e w1 ⟨rfl, hb1⟩; have z1 := hb1.size)
    | (go_at_call 18; refine (pow_new _).mono ?_; rintro e w2 ⟨v, rfl, pb, rfl, hpg, hpl, hp2, hb2⟩; have z2 := hb2.size)
    | (go_at_call 17; refine (rig_new (B := w0.heap.size) (g := smallG) hp2 (by omega) (by omega) hok).mono ?_; rintro e w3 ⟨cb, bb, mb, rfl, hR, hb3⟩))
  rw [HN.out] at hR
  have hb30 := (hb1.trans (hb2.mono z1)).trans (hb3.mono (Nat.le_trans z1 z2))
  have z3 := hb30.size
  clear hb1 hb2 hb3 hp2
  have hl3 := hR.lt
  have o1 := byts_one w3 7
  have hRa := hR.below (below_alloc w3 (.cells #[.int .u8 7] 5))
  go_upto_region 4 with (go_at_call 52; refine (half_append hRa 1 0 (by decide) _ 1 1 [7] o1 rfl (by decide) (by decide) P1.out).mono ?_; rintro e w4 ⟨rfl, hR4, ho4⟩)
  have hb40 := (hb30.alloc hb30.size _).trans (ho4.below hR.own2 (by simp; omega))
  have z4 := hb40.size
  clear hR hRa ho4 o1 hb30
  go_upto_region 5 with (go_at_call 53; refine (half_read hR4 1 P2.out A3.out L3.out).mono ?_; rintro e w5 ⟨A, c, rfl, hc, hby, hA, hb5⟩)
  have hb50 := hb40.trans (hb5.mono z4)
  have z5 := hb50.size
  clear hR4 hb5 hb40
  go_upto_region 6 with (go_at_call 46; refine (frame_scan A 256 c l2 _ hby L3.out hc.1 hc.2 (by decide)).mono ?_; rintro e w6 ⟨A6, c6, rfl, hc6, hr6, hA6, hb6⟩)
  rw [P3.out]
  have hb60 := hb50.trans (hb6.mono z5)
  have z6 := hb60.size
  go_wp2_with (first
    | (go_at_call 16; refine (play_small _).mono ?_; rintro e w7 ⟨rfl, hb7⟩; have z7 := hb7.size)
    | (go_at_call 54; refine (half_size smallG _ hok).mono ?_; rintro e w8 ⟨rfl, hb8⟩; rw [HH.out]))
  go_ret
  exact ⟨rfl, (hb60.trans (hb7.mono z6)).trans (hb8.mono (Nat.le_trans z6 z7))⟩
end Go.Proofs.Ytcdgpioljilgeaa
