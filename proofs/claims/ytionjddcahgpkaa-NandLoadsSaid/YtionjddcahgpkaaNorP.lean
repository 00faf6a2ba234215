/- What a chip of bits is, in plain words. Nothing here speaks of the program. -/
import Derived.Test.YtionjddcahgpkaaPowerP
set_option linter.unusedVariables false
set_option maxRecDepth 100000
namespace Go.Proofs.Ytionjddcahgpkaa

/-- A chip's form. -/
structure Geo where
  a : Int
  b : Int
  c : Int
  d : Int
  e : Int

/-- Chips may be of such a form. -/
def Geo.ok (g : Geo) : Prop := Int.tmod g.a 2 = 0 ∧ (2 ≤ g.a ∧ g.a ≤ 16) ∧ (256 ≤ g.b ∧ g.b ≤ 4096) ∧ (4 ≤ g.c ∧ g.c ≤ 64) ∧ (2 ≤ g.d ∧ g.d ≤ 32) ∧ (16 ≤ g.e ∧ g.e ≤ 256)
instance (g : Geo) : Decidable g.ok := by unfold Geo.ok; infer_instance

/-- Each number is one of the language's. -/
def Geo.wf (g : Geo) : Prop := (-9223372036854775808 ≤ g.a ∧ g.a ≤ 9223372036854775807) ∧ (-9223372036854775808 ≤ g.b ∧ g.b ≤ 9223372036854775807) ∧ (-9223372036854775808 ≤ g.c ∧ g.c ≤ 9223372036854775807) ∧ (-9223372036854775808 ≤ g.d ∧ g.d ≤ 9223372036854775807) ∧ (-9223372036854775808 ≤ g.e ∧ g.e ≤ 9223372036854775807)
theorem Geo.ok.wf {g : Geo} (h : g.ok) : g.wf := by unfold Geo.ok at h; unfold Geo.wf; omega

/-- So many bytes 255. -/
def ffs (n : Nat) : List UInt8 := List.replicate n 255
theorem ffs_length (n : Nat) : (ffs n).length = n := by simp [ffs]
theorem ffs_take (n k : Nat) (h : k ≤ n) : (ffs n).take k = ffs k := by simp [ffs, Nat.min_eq_left h]

/-- Why so many bytes are not there. -/
def askE (L : Nat) (x n : Int) : Int := if x < 0 ∨ n < 0 ∨ (L : Int) - n < x then 1 else 0

/-- Some byte has bits that are not there. -/
def bitsBad (l : List UInt8) (o : Nat) : List UInt8 → Bool
  | [] => false
  | x :: t => (x &&& ~~~ (l.getD o 0)) != 0 || bitsBad l (o + 1) t

/-- Bytes are programmed one by one: what stands then, power, and whether all is done. -/
def progL (s : PS) (l : List UInt8) (o : Nat) : List UInt8 → List UInt8 × PS × Bool
  | [] => (l, s, true)
  | x :: t =>
    if s.did = true then progL s.next (l.set o x) (o + 1) t
    else if s.torn = true then (l.set o (x ||| (l.getD o 0 &&& s.mask)), s.next, false)
    else (l, s.next, false)

theorem progL_length (s : PS) (l : List UInt8) (o : Nat) (bs : List UInt8) : (progL s l o bs).1.length = l.length := by
  induction bs generalizing s l o with
  | nil => rfl
  | cons x t ih =>
    unfold progL
    split
    · rw [ih]; simp
    · split <;> simp

/-- Bits set from a place on, so many bytes. -/
def orL (l : List UInt8) (o n : Nat) (m : UInt8) : List UInt8 := l.take o ++ ((l.drop o).take n).map (· ||| m) ++ l.drop (o + n)

end Go.Proofs.Ytionjddcahgpkaa
