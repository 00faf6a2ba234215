/- Plain words on halves of a chip: what a call to read, to append, to wipe answers. -/
import Derived.Test.YtcdgpioljilgeaaRefNor5
import Derived.Test.YtcdgpioljilgeaaNorQ
import Derived.Test.YtcdgpioljilgeaaFrameP
set_option linter.unusedVariables false
set_option maxRecDepth 100000
set_option linter.unusedSimpArgs false
namespace Go.Proofs.Ytcdgpioljilgeaa
open Go.RowKit

/-- How many sectors, and how many bytes, a half has. -/
def halfS (g : Geo) : Nat := (g.a / 2).toNat
def halfN (g : Geo) : Nat := halfS g * g.b.toNat

theorem half_facts {g : Geo} (hok : g.ok) : g.a = 2 * (halfS g : Int) ∧ 1 ≤ halfS g ∧ halfS g ≤ 8 ∧ 256 ≤ g.b ∧ g.b ≤ 4096 ∧ (halfN g : Int) = (halfS g : Int) * g.b ∧ halfN g ≤ 32768 ∧ 256 ≤ halfN g ∧ (g.a * g.b).toNat = 2 * halfN g := by
  unfold Geo.ok at hok
  unfold halfN halfS
  rcases g with ⟨a, b, c, d, e⟩
  simp only at *
  obtain ⟨h2, rfl⟩ : ∃ h2 : Nat, a = 2 * (h2 : Int) := ⟨(a / 2).toNat, by
    have : Int.tmod a 2 = a % 2 := Int.tmod_eq_emod_of_nonneg (by omega)
    omega⟩
  obtain ⟨sz, rfl⟩ : ∃ sz : Nat, b = (sz : Int) := ⟨b.toNat, by omega⟩
  have e1 : 2 * (h2 : Int) / 2 = (h2 : Int) := by omega
  simp only [e1, Int.toNat_natCast]
  have e2 : ((h2 * sz : Nat) : Int) = (h2 : Int) * (sz : Int) := by push_cast; rfl
  have e3 : h2 * sz ≤ 8 * 4096 := Nat.mul_le_mul (by omega) (by omega)
  have e4 : 1 * 256 ≤ h2 * sz := Nat.mul_le_mul (by omega) (by omega)
  have e5 : 2 * (h2 : Int) * (sz : Int) = 2 * ((h2 * sz : Nat) : Int) := by rw [e2, Int.mul_assoc]
  rw [e5]
  refine ⟨trivial, by omega, by omega, by omega, by omega, e2, by omega, by omega, by omega⟩

def isHalf (x : Int) : Prop := x = 0 ∨ x = 1
instance (x : Int) : Decidable (isHalf x) := by unfold isHalf; exact inferInstance

/-- A half's bytes. -/
def halfL (g : Geo) (l : List UInt8) (x : Int) : List UInt8 := if isHalf x then (l.drop (x.toNat * halfN g)).take (halfN g) else []
def halfA (x : Int) : Int := if isHalf x then 0 else 1

/-- What a call to append answers. -/
def appE (g : Geo) (s : PS) (l : List UInt8) (x at' : Int) (bs : List UInt8) : Int × List UInt8 × PS :=
  if ¬ isHalf x ∨ at' < 0 then (1, l, s)
  else if (halfN g : Int) - ((bs.length : Int) + 7) < at' then (10, l, s)
  else if (progE s l (x * halfN g + at') (bodyL bs)).1 ≠ 0 then progE s l (x * halfN g + at') (bodyL bs)
  else progE (progE s l (x * halfN g + at') (bodyL bs)).2.2 (progE s l (x * halfN g + at') (bodyL bs)).2.1 (x * halfN g + at' + ((bs.length : Int) + 6)) [0]

/-- What a call to wipe answers: sectors from the last one on, so many. -/
def wipeL (g : Geo) (b : Int) : Nat → PS → List UInt8 → (Int → Int) → Int × List UInt8 × PS × (Int → Int)
  | 0, s, l, cnt => (0, l, s, cnt)
  | k + 1, s, l, cnt => if (eraseE g s l cnt (b + (k : Int))).1 ≠ 0 then eraseE g s l cnt (b + (k : Int)) else wipeL g b k (eraseE g s l cnt (b + (k : Int))).2.2.1 (eraseE g s l cnt (b + (k : Int))).2.1 (eraseE g s l cnt (b + (k : Int))).2.2.2
def wipeE (g : Geo) (s : PS) (l : List UInt8) (cnt : Int → Int) (x : Int) : Int × List UInt8 × PS × (Int → Int) :=
  if isHalf x then wipeL g (x * halfS g) (halfS g) s l cnt else (1, l, s, cnt)
end Go.Proofs.Ytcdgpioljilgeaa
