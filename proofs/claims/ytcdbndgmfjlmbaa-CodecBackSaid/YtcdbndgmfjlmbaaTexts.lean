/- Slices of texts that are read, and how a row's reading gives them. -/
import Derived.Test.YtcdbndgmfjlmbaaBase
import Derived.Deep.Strs
set_option linter.unusedVariables false
namespace Go.Proofs.Ytcdbndgmfjlmbaa
open Go.RowKit

/-- The slice at A reads as these texts. -/
def Texts (w : World) (A : Option Addr) (l : List ByteArray) : Prop :=
  l = [] ∨ ∃ b off, A = some ⟨b, off, none⟩ ∧ ∀ i, (h : i < l.length) → w.cell? ⟨b, off + i, none⟩ = some (.string l[i])

theorem Texts.at {w : World} {A : Option Addr} {l : List ByteArray} (h : Texts w A l) {k : Nat} (hk : k < l.length) :
    ∃ b off, A = some ⟨b, off, none⟩ ∧ w.cell? ⟨b, off + k, none⟩ = some (.string l[k]) := by
  rcases h with h | ⟨b, off, hx, hc⟩
  · subst h; simp at hk
  · exact ⟨b, off, hx, hc k hk⟩

theorem Texts.below {w w' : World} {A : Option Addr} {l : List ByteArray} (h : Texts w A l) (hb : Below w.heap.size w w') : Texts w' A l := by
  rcases h with h | ⟨b, off, hx, hc⟩
  · exact Or.inl h
  · refine Or.inr ⟨b, off, hx, fun i hi => ?_⟩
    have h1 := hc i hi
    have h2 := World.block_lt_of_cell? w _ h1
    exact (hb.cell h2).trans h1

open Go.ChangeShapes Go.WideShapes in
theorem textsOf {H : Type} {enc : TypeId × Value → H} {P : Program} {W : World} {base : Nat} {spare : Nat → Bool} {held : Bool} {t e : TypeId} {a : Option Addr} {len cap : Nat} {d : DataW H} {ps : List MemPlace}
    (hu : P.underlying t = some (.slice e)) (he : P.underlying e = some .string) (hc : P.cellsOf e = 1)
    (h : DataW.Trod enc P W base spare held t (.slice a len cap) d ps) : ∃ l : List ByteArray, len = l.length ∧ (len ≤ cap ∧ cap ≤ maxLen) ∧ Texts W a l ∧ ∀ x ∈ l, x.size ≤ maxLen := by
  obtain ⟨fuel, hf⟩ := h
  rcases Go.Deep.open_strs hu he hc hf with ⟨hcs, _⟩ | ⟨x, l, c, m, Sx, hcs, _, hl, hm, hmm, _, hcell⟩
  · simp [Value.cells] at hcs
    obtain ⟨rfl, rfl, rfl⟩ := hcs
    exact ⟨[], rfl, ⟨Nat.le_refl _, Nat.zero_le _⟩, Or.inl rfl, by simp⟩
  · simp [Value.cells] at hcs
    obtain ⟨rfl, rfl, rfl⟩ := hcs
    have hlm : len ≤ m := by rw [hmm]; split <;> omega
    refine ⟨(List.range len).map Sx, by simp, ⟨hl, hm⟩, ?_, ?_⟩
    · by_cases h0 : len = 0
      · subst h0; exact Or.inl (by simp)
      · have hx := spot_none (hcell 0 (by omega)).1
        have hx : x = ⟨x.block, x.off, none⟩ := by
          rcases x with ⟨b, o, sp⟩
          simp [Addr.add] at hx ⊢
          exact hx
        refine Or.inr ⟨x.block, x.off, by rw [← hx], fun i hi => ?_⟩
        have hi' : i < len := by simpa using hi
        have h1 := (hcell i (by omega)).1
        rw [hx, add_none] at h1
        rw [h1]
        simp
    · intro y hy
      obtain ⟨i, hi, rfl⟩ := List.mem_map.1 hy
      exact (hcell i (by have := List.mem_range.1 hi; omega)).2
end Go.Proofs.Ytcdbndgmfjlmbaa
