/- nor.Right: of any form whether it may be. -/
import Derived.Test.YtionjddcahgpkaaNorP
import Derived.Test.YtionjddcahgpkaaKinds
import Derived.Outline
import Derived.Deep.QuietTactic
import Derived.IntWalk
set_option linter.unusedVariables false
set_option maxRecDepth 100000
set_option linter.unusedSimpArgs false
namespace Go.Proofs.Ytionjddcahgpkaa
open Go.RowKit

def Geo.cells (g : Geo) : List Value := [.int .i64 g.a, .int .i64 g.b, .int .i64 g.c, .int .i64 g.d, .int .i64 g.e]
def Geo.val (g : Geo) : Value := .agg #[.int .i64 g.a, .int .i64 g.b, .int .i64 g.c, .int .i64 g.d, .int .i64 g.e]

set_option maxHeartbeats 400000 in
theorem nor_within (v lo hi : Int) (w : World) : Calls Try.prog 60 #[.int .i64 v, .int .i64 lo, .int .i64 hi] w fun e w' => e = .returned (.bool (decide (lo ≤ v ∧ v ≤ hi))) ∧ w = w' := by
  by_cases h1 : lo ≤ v
  · by_cases h2 : v ≤ hi
    · go_enter Try.func60, Try.ntmps60
      go_wp2_with fail
      go_ret
      exact ⟨by simp [h1, h2], rfl⟩
    · go_enter Try.func60, Try.ntmps60
      go_wp2_with fail
      go_ret
      exact ⟨by simp [h1, h2], rfl⟩
  · go_enter Try.func60, Try.ntmps60
    go_wp2_with fail
    go_ret
    exact ⟨by simp; omega, rfl⟩

set_option maxHeartbeats 1000000 in
theorem nor_right (g : Geo) (w : World) : Calls Try.prog 39 #[g.val] w fun e w' => e = .returned (.bool (decide g.ok)) ∧ Below w.heap.size w w' := by
  rcases g with ⟨a, b, c, d, e⟩
  show Calls Try.prog 39 #[.agg #[.int .i64 a, .int .i64 b, .int .i64 c, .int .i64 d, .int .i64 e]] w _
  have hbx := Blk.new w [.int .i64 a, .int .i64 b, .int .i64 c, .int .i64 d, .int .i64 e] 23
  have hbel := below_alloc w (.cells [.int .i64 a, .int .i64 b, .int .i64 c, .int .i64 d, .int .i64 e].toArray 23 (0, 0))
  have c0 := hbx.cell 0 _ rfl
  have c1 := hbx.cell 1 _ rfl
  have c2 := hbx.cell 2 _ rfl
  have c3 := hbx.cell 3 _ rfl
  have c4 := hbx.cell 4 _ rfl
  obtain ⟨q1, H1⟩ : ∃ q, Hid (decide (2 ≤ a ∧ a ≤ 16) = q) := ⟨_, rfl⟩
  obtain ⟨q2, H2⟩ : ∃ q, Hid (decide (256 ≤ b ∧ b ≤ 4096) = q) := ⟨_, rfl⟩
  obtain ⟨q3, H3⟩ : ∃ q, Hid (decide (4 ≤ c ∧ c ≤ 64) = q) := ⟨_, rfl⟩
  obtain ⟨q4, H4⟩ : ∃ q, Hid (decide (2 ≤ d ∧ d ≤ 32) = q) := ⟨_, rfl⟩
  obtain ⟨q5, H5⟩ : ∃ q, Hid (decide (16 ≤ e ∧ e ≤ 256) = q) := ⟨_, rfl⟩
  have HK := Lib.hid (show decide (Geo.ok ⟨a, b, c, d, e⟩) = (decide (Int.tmod a 2 = 0) && q1 && q2 && q3 && q4 && q5) by
    rw [← H1.out, ← H2.out, ← H3.out, ← H4.out, ← H5.out, Bool.eq_iff_iff]
    simp [Geo.ok, and_assoc])
  rw [HK.out]
  by_cases h0 : Int.tmod a 2 = 0
  · cases q1; rotate_left; cases q2; rotate_left; cases q3; rotate_left; cases q4
    all_goals
      go_enter Try.func39, Try.ntmps39
      go_wp2_with (go_at_call 60; refine (nor_within _ _ _ _).mono ?_; rintro e' w' ⟨rfl, rfl⟩; first | rw [H1.out] | rw [H2.out] | rw [H3.out] | rw [H4.out] | rw [H5.out])
      go_ret
      exact ⟨by simp [h0], hbel⟩
  · go_enter Try.func39, Try.ntmps39
    go_wp2_with fail
    go_ret
    exact ⟨by simp [h0], hbel⟩

end Go.Proofs.Ytionjddcahgpkaa
