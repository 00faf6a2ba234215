/- Plain laws on ranges, page by page: which pieces a range has, and how many. -/
set_option linter.unusedVariables false
namespace Go.Proofs.Ytcdbndgmfjlmbaa

/-- Piece number j of a range. -/
def pieceN (off e pg j : Nat) : Nat × Nat × Nat :=
  (off / pg + j, max off ((off / pg + j) * pg) - (off / pg + j) * pg, min e ((off / pg + j) * pg + pg) - (off / pg + j) * pg)

theorem pieceN_def (off e pg j : Nat) : pieceN off e pg j = (off / pg + j, max off ((off / pg + j) * pg) - (off / pg + j) * pg, min e ((off / pg + j) * pg + pg) - (off / pg + j) * pg) := rfl

/-- How many pieces. -/
def countN (off e pg : Nat) : Nat := (e - 1) / pg + 1 - off / pg

def piecesN (off e pg : Nat) : List (Nat × Nat × Nat) := (List.range (countN off e pg)).map (pieceN off e pg)

/-- Where piece number j begins. -/
def offN (off e pg j : Nat) : Nat := max off (min e ((off / pg + j) * pg))

theorem lt_count {off e pg j : Nat} (hpg : 0 < pg) (he : off < e) : j < countN off e pg ↔ (off / pg + j) * pg < e := by
  unfold countN
  have h1 : (off / pg + j) * pg < e ↔ off / pg + j ≤ (e - 1) / pg := by
    rw [Nat.le_div_iff_mul_le hpg]; omega
  rw [h1]
  have h2 : off / pg ≤ (e - 1) / pg := Nat.div_le_div_right (by omega)
  omega

theorem offN_zero {off e pg : Nat} : offN off e pg 0 = off := by
  unfold offN
  have := Nat.div_mul_le_self off pg
  rw [Nat.add_zero]; omega

theorem round_facts {off e pg j : Nat} (hpg : 0 < pg) (he : off < e) (hj : j < countN off e pg) :
    ∃ q, (off / pg + j) * pg = q ∧ (off / pg + j + 1) * pg = q + pg ∧ q < e ∧ offN off e pg j = max off q ∧ q ≤ offN off e pg j ∧ offN off e pg j < q + pg ∧ offN off e pg j < e ∧
      offN off e pg j / pg = off / pg + j ∧ offN off e pg (j + 1) = min e (q + pg) := by
  have h1 := (lt_count hpg he).1 hj
  have hd := Nat.div_add_mod off pg
  have hm := Nat.mod_lt off hpg
  have h0 : (off / pg + j) * pg = pg * (off / pg) + j * pg := by rw [Nat.add_mul, Nat.mul_comm]
  have h3 : (off / pg + j + 1) * pg = (off / pg + j) * pg + pg := by rw [Nat.add_mul, Nat.one_mul]
  have hjp : j = 0 ∨ pg ≤ j * pg := by
    rcases Nat.eq_zero_or_pos j with h | h
    · exact Or.inl h
    · exact Or.inr (Nat.le_mul_of_pos_left pg h)
  refine ⟨_, rfl, h3, h1, ?_, ?_, ?_, ?_, ?_, ?_⟩
  · unfold offN; rw [Nat.min_eq_right (by omega)]
  · unfold offN; omega
  · unfold offN
    rcases hjp with rfl | h
    · omega
    · omega
  · unfold offN; omega
  · have a1 : (off / pg + j) * pg ≤ offN off e pg j := by unfold offN; omega
    have a2 : offN off e pg j < (off / pg + j + 1) * pg := by
      rw [h3]; unfold offN
      rcases hjp with rfl | h <;> omega
    exact Nat.div_eq_of_lt_le a1 a2
  · unfold offN
    rw [show off / pg + (j + 1) = off / pg + j + 1 from by omega, h3]
    rcases hjp with rfl | h <;> omega

theorem next_le {off e pg j : Nat} (hpg : 0 < pg) (he : off < e) (hj : j < countN off e pg) : (off / pg + j + 1) * pg ≤ max pg (2 * e) := by
  have h1 := (lt_count hpg he).1 hj
  rw [Nat.add_mul, Nat.one_mul]
  rcases Nat.eq_zero_or_pos (off / pg + j) with h | h
  · rw [h]; omega
  · have := Nat.le_mul_of_pos_left pg h
    omega

theorem offN_end {off e pg : Nat} (hpg : 0 < pg) (he : off < e) : offN off e pg (countN off e pg) = e := by
  have h := (lt_count (j := countN off e pg) hpg he)
  have : ¬ (off / pg + countN off e pg) * pg < e := by rw [← h]; omega
  unfold offN; omega

theorem piecesN_length (off e pg : Nat) : (piecesN off e pg).length = countN off e pg := by simp [piecesN]

theorem take_pieces (off e pg j : Nat) (hj : j < countN off e pg) : (List.range (j + 1)).map (pieceN off e pg) = (List.range j).map (pieceN off e pg) ++ [pieceN off e pg j] := by
  rw [List.range_succ, List.map_append]; rfl

theorem count_le {off e pg : Nat} : countN off e pg ≤ (e - 1) + 1 := by
  unfold countN
  have := Nat.div_le_self (e - 1) pg
  generalize (e - 1) / pg = x at *
  generalize off / pg = y at *
  omega

end Go.Proofs.Ytcdbndgmfjlmbaa
