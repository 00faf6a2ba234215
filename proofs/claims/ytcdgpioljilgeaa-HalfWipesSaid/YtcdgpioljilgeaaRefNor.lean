/- The reference's chip of bits. -/
import Derived.Test.YtcdgpioljilgeaaNor4
import Derived.Test.YtcdgpioljilgeaaRefPower
import Derived.Test.YtcdgpioljilgeaaMake
set_option linter.unusedVariables false
set_option maxRecDepth 100000
set_option linter.unusedSimpArgs false
namespace Go.Proofs.Ytcdgpioljilgeaa
open Go.RowKit

theorem or_ff (x : UInt8) : x ||| 255 = 255 := by
  apply UInt8.toBitVec_inj.1
  have : (255 : UInt8).toBitVec = BitVec.allOnes 8 := by decide
  rw [UInt8.toBitVec_or, this, BitVec.or_allOnes]

set_option maxHeartbeats 1000000 in
theorem ref_right (g : Geo) (w : World) : Calls Try.prog 29 #[g.val] w fun e w' => e = .returned (.bool (decide g.ok)) ∧ Below w.heap.size w w' := by
  rcases g with ⟨a, b, c, d, e⟩
  show Calls Try.prog 29 #[.agg #[.int .i64 a, .int .i64 b, .int .i64 c, .int .i64 d, .int .i64 e]] w _
  have hbx := Blk.new w [.int .i64 a, .int .i64 b, .int .i64 c, .int .i64 d, .int .i64 e] 23
  have hbel := below_alloc w (.cells [.int .i64 a, .int .i64 b, .int .i64 c, .int .i64 d, .int .i64 e].toArray 23 (0, 0))
  have c0 := hbx.cell 0 _ rfl
  have c1 := hbx.cell 1 _ rfl
  have c2 := hbx.cell 2 _ rfl
  have c3 := hbx.cell 3 _ rfl
  have c4 := hbx.cell 4 _ rfl
  have HK := Lib.hid (show decide (Geo.ok ⟨a, b, c, d, e⟩) = (decide (2 ≤ a) && decide (a ≤ 16) && decide (a % 2 = 0) && decide (256 ≤ b) && decide (b ≤ 4096) && decide (4 ≤ c) && decide (c ≤ 64) && decide (2 ≤ d) && decide (d ≤ 32) && decide (16 ≤ e) && decide (e ≤ 256)) by
    rw [Bool.eq_iff_iff, decide_eq_true_iff]
    simp only [Geo.ok, Bool.and_eq_true, decide_eq_true_eq]
    have ht : 2 ≤ a → Int.tmod a 2 = a % 2 := fun h => Int.tmod_eq_emod_of_nonneg (by omega)
    generalize Int.tmod a 2 = q at *
    omega)
  rw [HK.out]
  clear HK hbx
  by_cases h0 : 2 ≤ a
  by_cases h1 : a ≤ 16
  by_cases h2 : a % 2 = 0
  by_cases h3 : 256 ≤ b
  by_cases h4 : b ≤ 4096
  by_cases h5 : 4 ≤ c
  by_cases h6 : c ≤ 64
  by_cases h7 : 2 ≤ d
  by_cases h8 : d ≤ 32
  by_cases h9 : 16 ≤ e
  by_cases h10 : e ≤ 256
  all_goals
    go_enter Try.func29, Try.ntmps29
    go_wp2_with fail
    go_ret
    exact ⟨by first | (simp [*]; done) | (simp [*]; intros; omega), hbel⟩
end Go.Proofs.Ytcdgpioljilgeaa
