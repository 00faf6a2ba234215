/- What power is, in plain words: how many steps are left, whether it is off, which steps fail, how many were done. -/
set_option linter.unusedVariables false
set_option maxRecDepth 100000
namespace Go.Proofs.Ytionjddcahgpkaa

/-- Power as it stands. -/
structure PS where
  left : Int
  mask : UInt8
  off : Bool
  fails : List Int
  done : Nat

namespace PS
def new : PS := ⟨-1, 0, false, [], 0⟩
def cut (s : PS) (left : Int) (mask : UInt8) : PS := { s with left := max left (-1), mask := mask }
def failOn (s : PS) (l : List Int) : PS := { s with fails := l }
def on (s : PS) : PS := { s with off := false, left := -1 }
/-- One step: what becomes of it; whether it is done; whether it is torn. -/
def next (s : PS) : PS := if s.off = true then s else if s.left = 0 then { s with off := true } else { s with left := if 0 < s.left then s.left - 1 else s.left, done := s.done + 1 }
def did (s : PS) : Bool := !s.off && !decide (s.left = 0)
def torn (s : PS) : Bool := !s.off && decide (s.left = 0)
def failing (s : PS) : Bool := decide (0 < s.done) && s.fails.contains ((s.done : Int) - 1)

theorem next_mask (s : PS) : s.next.mask = s.mask := by
  unfold next
  split
  · rfl
  · split <;> rfl
theorem next_fails (s : PS) : s.next.fails = s.fails := by
  unfold next
  split
  · rfl
  · split <;> rfl
theorem next_done_le (s : PS) : s.next.done ≤ s.done + 1 := by
  unfold next
  split
  · omega
  · split <;> simp
end PS
end Go.Proofs.Ytionjddcahgpkaa
