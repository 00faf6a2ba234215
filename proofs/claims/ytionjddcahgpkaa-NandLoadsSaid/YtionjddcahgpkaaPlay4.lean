/- A small geometry out of any one. -/
import Derived.Test.YtionjddcahgpkaaRight
import Derived.Test.YtionjddcahgpkaaHelp
import Derived.Deep.RegionHeld3
import Derived.Carry
import Derived.StillTailTactics
set_option linter.unusedVariables false
set_option maxRecDepth 100000
set_option linter.unusedSimpArgs false
namespace Go.Proofs.Ytionjddcahgpkaa
open Go.RowKit

/-- int(uint(v) % uint(n)). -/
def pmod (v : Int) (n : Nat) : Nat := (wrap64 ((IntKind.u64.wrap v).tmod (n : Int))).toNat
theorem pmod_is (v : Int) (n : Nat) (h0 : 0 < n) (hn : n ≤ 9223372036854775807) : wrap64 ((IntKind.u64.wrap v).tmod (n : Int)) = (pmod v n : Int) ∧ pmod v n < n := by
  obtain ⟨i, h1, h2⟩ := mod_len v n h0 hn
  unfold pmod
  rw [h1]
  exact ⟨rfl, by simpa using h2⟩

/-- The geometry that is made of one. -/
def playG (g : Geo) : Geo := ⟨2 + 2 * (pmod g.a 3 : Int), 256 + 64 * (pmod g.b 12 : Int), 4 + (pmod g.c 5 : Int), 2 + (pmod g.d 5 : Int), 16 + 4 * (pmod g.e 6 : Int)⟩
theorem playG_bounds (g : Geo) : pmod g.a 3 < 3 ∧ pmod g.b 12 < 12 ∧ pmod g.c 5 < 5 ∧ pmod g.d 5 < 5 ∧ pmod g.e 6 < 6 :=
  ⟨(pmod_is _ 3 (by decide) (by decide)).2, (pmod_is _ 12 (by decide) (by decide)).2, (pmod_is _ 5 (by decide) (by decide)).2, (pmod_is _ 5 (by decide) (by decide)).2, (pmod_is _ 6 (by decide) (by decide)).2⟩
theorem playG_ok (g : Geo) : (playG g).ok := by
  obtain ⟨h1, h2, h3, h4, h5⟩ := playG_bounds g
  have e : Int.tmod (2 + 2 * (pmod g.a 3 : Int)) 2 = 0 := by rw [Int.tmod_eq_emod_of_nonneg (by omega)]; omega
  refine ⟨e, ?_⟩
  unfold playG
  simp only
  omega

set_option maxHeartbeats 400000 in
theorem play_mod (v : Int) (n : Nat) (w : World) (h0 : 0 < n) (hn : n ≤ 1000) : Calls Try.prog 38 #[.int .i64 v, .int .i64 (n : Int)] w fun e w' => e = .returned (.int .i64 (pmod v n : Int)) ∧ w' = w := by
  have HN := Lib.hid (pmod_is v n h0 (by omega)).1
  have hu : IntKind.u64.wrap (n : Int) = (n : Int) := by simp [IntKind.wrap, IntKind.bits, IntKind.signed]; omega
  have hn0 : ¬ (n : Int) = 0 := by omega
  have hn1 : ((n : Int) == 0) = false := by simp; omega
  go_enter Try.func38, Try.ntmps38
  go_wp2_with fail
  go_ret
  exact ⟨by rw [← HN.out]; rfl, rfl⟩

set_option maxHeartbeats 1000000 in
theorem play_geometry (g : Geo) (w : World) : Calls Try.prog 7 #[g.val] w fun e w' => e = .returned (playG g).val ∧ Below w.heap.size w w' := by
  have HG := Lib.hid (show (playG g).val = .agg #[.int .i64 (2 + 2 * (pmod g.a 3 : Int)), .int .i64 (256 + 64 * (pmod g.b 12 : Int)), .int .i64 (4 + (pmod g.c 5 : Int)), .int .i64 (2 + (pmod g.d 5 : Int)), .int .i64 (16 + 4 * (pmod g.e 6 : Int))] from rfl)
  obtain ⟨h1, h2, h3, h4, h5⟩ := playG_bounds g
  have m1 : ∀ W, Calls Try.prog 38 #[.int .i64 g.a, .int .i64 3] W fun e w' => e = .returned (.int .i64 (pmod g.a 3 : Int)) ∧ w' = W := fun W => play_mod g.a 3 W (by decide) (by decide)
  have m2 : ∀ W, Calls Try.prog 38 #[.int .i64 g.b, .int .i64 12] W fun e w' => e = .returned (.int .i64 (pmod g.b 12 : Int)) ∧ w' = W := fun W => play_mod g.b 12 W (by decide) (by decide)
  have m3 : ∀ W, Calls Try.prog 38 #[.int .i64 g.c, .int .i64 5] W fun e w' => e = .returned (.int .i64 (pmod g.c 5 : Int)) ∧ w' = W := fun W => play_mod g.c 5 W (by decide) (by decide)
  have m4 : ∀ W, Calls Try.prog 38 #[.int .i64 g.d, .int .i64 5] W fun e w' => e = .returned (.int .i64 (pmod g.d 5 : Int)) ∧ w' = W := fun W => play_mod g.d 5 W (by decide) (by decide)
  have m5 : ∀ W, Calls Try.prog 38 #[.int .i64 g.e, .int .i64 6] W fun e w' => e = .returned (.int .i64 (pmod g.e 6 : Int)) ∧ w' = W := fun W => play_mod g.e 6 W (by decide) (by decide)
  have M1 := Lib.hid m1
  have M2 := Lib.hid m2
  have M3 := Lib.hid m3
  have M4 := Lib.hid m4
  have M5 := Lib.hid m5
  clear m1 m2 m3 m4 m5
  rw [HG.out]
  show Calls Try.prog 7 #[.agg #[.int .i64 g.a, .int .i64 g.b, .int .i64 g.c, .int .i64 g.d, .int .i64 g.e]] w _
  have hbx := Blk.new w [.int .i64 g.a, .int .i64 g.b, .int .i64 g.c, .int .i64 g.d, .int .i64 g.e] 23
  have hbel := below_alloc w (.cells [.int .i64 g.a, .int .i64 g.b, .int .i64 g.c, .int .i64 g.d, .int .i64 g.e].toArray 23 (0, 0))
  generalize pmod g.a 3 = q1 at *
  generalize pmod g.b 12 = q2 at *
  generalize pmod g.c 5 = q3 at *
  generalize pmod g.d 5 = q4 at *
  generalize pmod g.e 6 = q5 at *
  go_enter Try.func7, Try.ntmps7
  go_upto_region 1 with fail
  have K1 := Lib.hid (fun (o : Obj) => (hbx.alloc o).drew)
  have B1 := Lib.hid (fun (o : Obj) => (hbel.alloc hbel.size o).drew)
  clear hbx hbel
  have s1 : IntKind.i64.wrap (2 * (q1 : Int)) = 2 * (q1 : Int) := IntWalk.i64_in _ (by omega)
  have s2 : IntKind.i64.wrap (2 + 2 * (q1 : Int)) = 2 + 2 * (q1 : Int) := IntWalk.i64_in _ (by omega)
  have s3 : IntKind.i64.wrap (64 * (q2 : Int)) = 64 * (q2 : Int) := IntWalk.i64_in _ (by omega)
  have s4 : IntKind.i64.wrap (256 + 64 * (q2 : Int)) = 256 + 64 * (q2 : Int) := IntWalk.i64_in _ (by omega)
  have s5 : IntKind.i64.wrap (4 + (q3 : Int)) = 4 + (q3 : Int) := IntWalk.i64_in _ (by omega)
  have s6 : IntKind.i64.wrap (2 + (q4 : Int)) = 2 + (q4 : Int) := IntWalk.i64_in _ (by omega)
  have s7 : IntKind.i64.wrap (4 * (q5 : Int)) = 4 * (q5 : Int) := IntWalk.i64_in _ (by omega)
  have s8 : IntKind.i64.wrap (16 + 4 * (q5 : Int)) = 16 + 4 * (q5 : Int) := IntWalk.i64_in _ (by omega)
  clear h1 h2 h3 h4 h5
  go_region_held3 (fun w' => w'.cell? ⟨w.heap.size, 0, none⟩ = some (.int .i64 g.a) ∧ w'.cell? ⟨w.heap.size, 1, none⟩ = some (.int .i64 g.b) ∧ w'.cell? ⟨w.heap.size, 2, none⟩ = some (.int .i64 g.c) ∧ w'.cell? ⟨w.heap.size, 3, none⟩ = some (.int .i64 g.d) ∧ w'.cell? ⟨w.heap.size, 4, none⟩ = some (.int .i64 g.e))
    (exact ⟨(K1.out _).cell 0 _ rfl, (K1.out _).cell 1 _ rfl, (K1.out _).cell 2 _ rfl, (K1.out _).cell 3 _ rfl, (K1.out _).cell 4 _ rfl⟩)
    (first
      | (go_at_call 38; (with_reducible refine (M1.out _).mono ?_); rintro e' w' ⟨rfl, rfl⟩)
      | (go_at_call 38; (with_reducible refine (M2.out _).mono ?_); rintro e' w' ⟨rfl, rfl⟩)
      | (go_at_call 38; (with_reducible refine (M3.out _).mono ?_); rintro e' w' ⟨rfl, rfl⟩)
      | (go_at_call 38; (with_reducible refine (M4.out _).mono ?_); rintro e' w' ⟨rfl, rfl⟩)
      | (go_at_call 38; (with_reducible refine (M5.out _).mono ?_); rintro e' w' ⟨rfl, rfl⟩))
  go_wp2_with fail
  refine bodyPost_ret (v := .agg #[.int .i64 (2 + 2 * (q1 : Int)), .int .i64 (256 + 64 * (q2 : Int)), .int .i64 (4 + (q3 : Int)), .int .i64 (2 + (q4 : Int)), .int .i64 (16 + 4 * (q5 : Int))]) (by simp [results, Try.results7, go_sem]) rfl ⟨rfl, ?_⟩
  exact B1.out _
/-- The smallest geometry. -/
def smallG : Geo := ⟨2, 256, 4, 2, 16⟩
theorem smallG_ok : smallG.ok := by decide
theorem smallG_is : playG ⟨0, 0, 0, 0, 0⟩ = smallG := by
  have h : ∀ n : Nat, pmod 0 n = 0 := fun n => by
    unfold pmod
    have : IntKind.u64.wrap 0 = 0 := by simp [IntKind.wrap, IntKind.bits, IntKind.signed]
    rw [this, Int.zero_tmod]
    unfold wrap64
    decide
  unfold playG
  simp only [h]
  rfl
theorem smallG_size : (smallG.a * smallG.b).toNat = 512 := rfl
theorem play_small (w : World) : Calls Try.prog 7 #[.agg #[.int .i64 0, .int .i64 0, .int .i64 0, .int .i64 0, .int .i64 0]] w fun e w' => e = .returned (.agg #[.int .i64 2, .int .i64 256, .int .i64 4, .int .i64 2, .int .i64 16]) ∧ Below w.heap.size w w' := by
  have h := play_geometry ⟨0, 0, 0, 0, 0⟩ w
  rw [smallG_is] at h
  exact h
end Go.Proofs.Ytionjddcahgpkaa
