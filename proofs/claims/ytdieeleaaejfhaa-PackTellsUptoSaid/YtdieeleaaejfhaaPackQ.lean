/- Plain words on how deeds are read out of bytes. -/
import Derived.Test.YtdieeleaaejfhaaPackP
import Derived.Test.YtdieeleaaejfhaaText2
set_option linter.unusedVariables false
set_option maxRecDepth 100000
namespace Go.Proofs.Ytdieeleaaejfhaa
open Go.RowKit

/-- A reader's place, and its error. -/
structure RS where
  at' : Int
  e : Nat
/-- What holds of it: the place is not far behind the end; without an error it is not behind it. -/
def RS.ok (s : RS) (n : Nat) : Prop := 0 ≤ s.at' ∧ s.at' ≤ n + 8 ∧ (s.e = 0 → s.at' ≤ n) ∧ s.e ≤ 5

def rdGet (b : List UInt8) (s : RS) (k : Nat) : Nat × RS := if s.e = 0 then ((getR b s.at' k).1, ⟨s.at' + k, (getR b s.at' k).2⟩) else (0, s)
def rdInt (b : List UInt8) (s : RS) : Int × RS := (wrap64 ((rdGet b s 8).1 : Int), (rdGet b s 8).2)
def rdText (b : List UInt8) (s : RS) : List UInt8 × RS := if s.e = 0 then ((getT b s.at').1, ⟨(getT b s.at').2.1, (getT b s.at').2.2⟩) else ([], s)

def rdInts (b : List UInt8) : Nat → RS → List Int → List Int × RS
  | 0, s, acc => (acc, s)
  | k + 1, s, acc => rdInts b k (rdInt b s).2 (acc ++ [(rdInt b s).1])
def rdEnts (b : List UInt8) : Nat → RS → List Ent → List Ent × RS
  | 0, s, acc => (acc, s)
  | k + 1, s, acc => if s.e = 0 then rdEnts b k (rdInt b (rdText b s).2).2 (acc ++ [⟨strOf (rdText b s).1, (rdInt b (rdText b s).2).1⟩]) else (acc, s)
def rdRun (b : List UInt8) (s : RS) : RunT × RS :=
  (⟨(rdInt b s).1, (rdInt b (rdInt b s).2).1, (rdInt b (rdInt b (rdInt b s).2).2).1⟩, (rdInt b (rdInt b (rdInt b s).2).2).2)
def rdRuns (b : List UInt8) : Nat → RS → List RunT → List RunT × RS
  | 0, s, acc => (acc, s)
  | k + 1, s, acc => if s.e = 0 then rdRuns b k (rdRun b s).2 (acc ++ [(rdRun b s).1]) else (acc, s)
/-- The numbers ahead of an inode's text, and it. -/
def rdHead (b : List UInt8) (s : RS) : Ino × RS :=
  let a := rdInt b s
  let c := rdInt b a.2
  let d := rdInt b c.2
  let f := rdInt b d.2
  let t := rdText b f.2
  (⟨a.1, c.1, d.1, f.1, strOf t.1, [], []⟩, t.2)
def rdIno (b : List UInt8) (s : RS) : Ino × RS :=
  let h := rdHead b s
  let n := rdGet b h.2 4
  let es := rdEnts b n.1 n.2 []
  let k := rdGet b es.2 4
  let rs := rdRuns b k.1 k.2 []
  ({ h.1 with ents := es.1, runs := rs.1 }, rs.2)
def ino0 : Ino := ⟨0, 0, 0, 0, ByteArray.empty, [], []⟩
def rdDd (b : List UInt8) (s : RS) : Dd × RS :=
  let k := rdGet b s 1
  if numKind (k.1 : Int) then (⟨k.1, (rdInt b k.2).1, ino0⟩, (rdInt b k.2).2)
  else if (k.1 : Int) = 2 then (⟨k.1, 0, (rdIno b k.2).1⟩, (rdIno b k.2).2)
  else (⟨k.1, 0, ino0⟩, ⟨k.2.at', 5⟩)
/-- Deeds till the end, or the error. -/
def rdDds (b : List UInt8) : Nat → RS → List Dd → List Dd × Nat
  | 0, _, acc => (acc, 0)
  | f + 1, s, acc => if s.at' < b.length then (if (rdDd b s).2.e = 0 then rdDds b f (rdDd b s).2 (acc ++ [(rdDd b s).1]) else ([], (rdDd b s).2.e)) else (acc, 0)

theorem getR_cases (b : List UInt8) (o : Int) (k : Nat) (h0 : 0 ≤ o) (hk : 1 ≤ k ∧ k ≤ 8) : (o + k ≤ b.length ∧ (getR b o k).2 = 0 ∧ (getR b o k).1 < 2 ^ (8 * k)) ∨ (b.length < o + k ∧ getR b o k = (0, 3)) := by
  unfold getR
  rw [if_neg (by omega)]
  by_cases h : (b.length : Int) - k < o
  · rw [if_pos h]
    exact Or.inr ⟨by omega, rfl⟩
  · rw [if_neg h]
    refine Or.inl ⟨by omega, rfl, ?_⟩
    have h1 := num_lt ((b.take (o.toNat + (k : Int).toNat)).drop o.toNat)
    have h2 : ((b.take (o.toNat + (k : Int).toNat)).drop o.toNat).length = k := by
      rw [List.length_drop, List.length_take]
      have : (k : Int).toNat = k := by omega
      omega
    rw [h2] at h1
    exact h1
theorem getT_cases (b : List UInt8) (o : Int) (h0 : 0 ≤ o) : ((getT b o).2.2 = 0 ∧ o + 4 ≤ (getT b o).2.1 ∧ (getT b o).2.1 ≤ b.length) ∨ ((getT b o).2.2 = 3 ∧ (getT b o).2.1 = 0) := by
  unfold getT
  rw [if_neg (by omega)]
  by_cases h : (b.length : Int) - 4 < o
  · rw [if_pos h]
    exact Or.inr ⟨rfl, rfl⟩
  · rw [if_neg h]
    split
    · exact Or.inr ⟨rfl, rfl⟩
    · refine Or.inl ⟨rfl, ?_, ?_⟩
      · show o + 4 ≤ o + 4 + _
        omega
      · show o + 4 + _ ≤ (b.length : Int)
        omega
theorem RS.ok.get {b : List UInt8} {s : RS} (h : s.ok b.length) (k : Nat) (hk : 1 ≤ k ∧ k ≤ 8) : (rdGet b s k).2.ok b.length ∧ (rdGet b s k).1 < 2 ^ (8 * k) ∧ ((rdGet b s k).2.e = 0 → (rdGet b s k).2.at' = s.at' + k) := by
  obtain ⟨h1, h2, h3, h4⟩ := h
  unfold rdGet
  by_cases he : s.e = 0
  · rw [if_pos he]
    have h5 := h3 he
    rcases getR_cases b s.at' k h1 hk with ⟨a, c, d⟩ | ⟨a, c⟩
    · exact ⟨⟨by simp only; omega, by simp only; omega, fun _ => by simp only; omega, by simp only; omega⟩, d, fun _ => rfl⟩
    · rw [c]
      exact ⟨⟨by simp only; omega, by simp only; omega, (fun h => by cases h), (by show 3 ≤ 5; decide)⟩, Nat.two_pow_pos _, (fun h => by cases h)⟩
  · rw [if_neg he]
    exact ⟨⟨h1, h2, h3, h4⟩, Nat.two_pow_pos _, fun h => absurd h he⟩
theorem RS.ok.int {b : List UInt8} {s : RS} (h : s.ok b.length) : (rdInt b s).2.ok b.length := (h.get 8 (by decide)).1
theorem RS.ok.text {b : List UInt8} {s : RS} (h : s.ok b.length) : (rdText b s).2.ok b.length := by
  obtain ⟨h1, h2, h3, h4⟩ := h
  unfold rdText
  by_cases he : s.e = 0
  · rw [if_pos he]
    rcases getT_cases b s.at' h1 with ⟨a, c, d⟩ | ⟨a, c⟩
    · exact ⟨by simp only; omega, by simp only; omega, fun _ => by simp only; omega, by simp only; omega⟩
    · exact ⟨by simp only; omega, by simp only; omega, fun h => by simp only at h; omega, by simp only; omega⟩
  · rw [if_neg he]
    exact ⟨h1, h2, h3, h4⟩
end Go.Proofs.Ytdieeleaaejfhaa
