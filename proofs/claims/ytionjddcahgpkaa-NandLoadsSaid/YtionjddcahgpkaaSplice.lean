/- Plain laws on bytes laid into bytes. -/
set_option linter.unusedVariables false
set_option maxRecDepth 100000
namespace Go.Proofs.Ytionjddcahgpkaa
/-- Bytes laid into others. -/
def splice {α : Type} (x : List α) (o : Nat) (c : List α) : List α := x.take o ++ c ++ x.drop (o + c.length)

theorem splice_length {α : Type} (x : List α) (o : Nat) (c : List α) (h : o + c.length ≤ x.length) : (splice x o c).length = x.length := by
  simp [splice]; omega

theorem splice_get {α : Type} (x : List α) (o : Nat) (c : List α) (h : o + c.length ≤ x.length) (i : Nat) :
    (splice x o c)[i]? = if i < o then x[i]? else if i < o + c.length then c[i - o]? else x[i]? := by
  unfold splice
  by_cases h1 : i < o
  · rw [if_pos h1, List.append_assoc, List.getElem?_append_left (by simp; omega), List.getElem?_take_of_lt h1]
  · rw [if_neg h1]
    by_cases h2 : i < o + c.length
    · rw [if_pos h2, List.append_assoc, List.getElem?_append_right (by simp; omega), List.length_take, Nat.min_eq_left (by omega), List.getElem?_append_left (by omega)]
    · rw [if_neg h2, List.getElem?_append_right (by simp; omega), List.length_append, List.length_take, Nat.min_eq_left (by omega), List.getElem?_drop]
      congr 1; omega

/-- Laid into a part that is laid back: laid into the whole. -/
theorem splice_part {α : Type} (x : List α) (q n f : Nat) (c : List α) (h1 : f + c.length ≤ n) (h2 : q + n ≤ x.length) :
    splice x q (splice ((x.take (q + n)).drop q) f c) = splice x (q + f) c := by
  have hl : ((x.take (q + n)).drop q).length = n := by simp; omega
  have hs : (splice ((x.take (q + n)).drop q) f c).length = n := by rw [splice_length _ _ _ (by omega), hl]
  apply List.ext_getElem?
  intro i
  rw [splice_get _ _ _ (by omega), splice_get _ _ _ (by omega), splice_get _ _ _ (by omega), hs]
  by_cases a : i < q
  · rw [if_pos a, if_pos (by omega)]
  · rw [if_neg a]
    by_cases b : i < q + n
    · rw [if_pos b]
      by_cases d : i < q + f
      · rw [if_pos (by omega), if_pos d, List.getElem?_drop, List.getElem?_take_of_lt (by omega)]
        congr 1; omega
      · rw [if_neg (by omega), if_neg d]
        by_cases e : i < q + f + c.length
        · rw [if_pos (by omega), if_pos e]
          congr 1; omega
        · rw [if_neg (by omega), if_neg e, List.getElem?_drop, List.getElem?_take_of_lt (by omega)]
          congr 1; omega
    · rw [if_neg b, if_neg (by omega), if_neg (by omega)]

/-- One behind the other. -/
theorem splice_more {α : Type} (x b : List α) (o k m : Nat) (h1 : k + m ≤ b.length) (h2 : o + b.length ≤ x.length) :
    splice (splice x o (b.take k)) (o + k) ((b.drop k).take m) = splice x o (b.take (k + m)) := by
  have e1 : (b.take k).length = k := by simp; omega
  have e2 : ((b.drop k).take m).length = m := by simp; omega
  have e3 : (b.take (k + m)).length = k + m := by simp; omega
  have hl := splice_length x o (b.take k) (by omega)
  apply List.ext_getElem?
  intro i
  rw [splice_get _ _ _ (by omega), splice_get _ _ _ (by omega), splice_get _ _ _ (by omega), e1, e2, e3]
  by_cases a : i < o
  · have f2 : i < o + k := by omega
    simp only [if_pos a, if_pos f2]
  · by_cases b1 : i < o + k
    · have f4 : i < o + (k + m) := by omega
      simp only [if_neg a, if_pos b1, if_pos f4]
      rw [List.getElem?_take_of_lt (by omega), List.getElem?_take_of_lt (by omega)]
    · by_cases d : i < o + (k + m)
      · have f3 : i < o + k + m := by omega
        simp only [if_neg a, if_neg b1, if_pos d, if_pos f3]
        rw [List.getElem?_take_of_lt (by omega), List.getElem?_take_of_lt (by omega), List.getElem?_drop]
        congr 1; omega
      · have f3 : ¬ i < o + k + m := by omega
        simp only [if_neg a, if_neg b1, if_neg d, if_neg f3]
end Go.Proofs.Ytionjddcahgpkaa
