/- Plain laws on numbers as bytes. -/
import Derived.Test.YtdieeleaaejfhaaText2
set_option linter.unusedVariables false
set_option maxRecDepth 100000
namespace Go.Proofs.Ytdieeleaaejfhaa
open Go.RowKit

theorem num_low (v n : Nat) : num (low v n) = v % 2 ^ (8 * n) := by
  induction n with
  | zero => simp [low, num, Nat.mod_one]
  | succ n ih =>
    rw [low_succ, num_append, ih, low_length, show 8 * (n + 1) = 8 * n + 8 by omega, Nat.pow_add, Nat.mod_mul]
    simp [UInt8.toNat_ofNat']
    rw [Nat.mul_comm]

theorem getR_low (v m : Nat) (h1 : 1 ≤ m) (h2 : m ≤ 8) : getR (low v m) 0 (m : Int) = (v % 2 ^ (8 * m), 0) := by
  have h := getR_ok (l := low v m) (off := 0) (n := m) (by omega) (by rw [low_length]; omega)
  rw [Nat.zero_add, List.drop_zero, List.take_of_length_le (by rw [low_length]; omega), num_low] at h
  exact h

end Go.Proofs.Ytdieeleaaejfhaa
