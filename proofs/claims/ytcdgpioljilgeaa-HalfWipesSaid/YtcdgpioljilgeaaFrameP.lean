/- Records, in plain words. Nothing here speaks of the program. -/
import Derived.Test.YtcdgpioljilgeaaGet
import Derived.Test.YtcdgpioljilgeaaSumP
set_option linter.unusedVariables false
set_option maxRecDepth 100000
namespace Go.Proofs.Ytcdgpioljilgeaa

theorem num_low' (v n : Nat) : num (low v n) = v % 2 ^ (8 * n) := by
  induction n with
  | zero => simp [low, num, Nat.mod_one]
  | succ n ih =>
    rw [low_succ, num_append, ih, low_length, show 8 * (n + 1) = 8 * n + 8 by omega, Nat.pow_add, Nat.mod_mul]
    simp [UInt8.toNat_ofNat']
    rw [Nat.mul_comm]
theorem num_inj' : ∀ (l m : List UInt8), l.length = m.length → num l = num m → l = m
  | [], [], _, _ => rfl
  | [], _ :: _, h, _ => by simp at h
  | _ :: _, [], h, _ => by simp at h
  | x :: l, y :: m, h, e => by
    rw [num_cons, num_cons] at e
    have hx := x.toNat_lt
    have hy := y.toNat_lt
    have e1 : x.toNat = y.toNat := by omega
    have e2 : num l = num m := by omega
    rw [num_inj' l m (by simpa using h) e2, UInt8.toNat_inj.1 e1]

/-- A record without its flag, and with it. -/
def bodyL (b : List UInt8) : List UInt8 := low b.length 2 ++ (low (sumN (low b.length 2 ++ b)) 4 ++ b)
def recL (b : List UInt8) : List UInt8 := bodyL b ++ [0]
theorem bodyL_length (b : List UInt8) : (bodyL b).length = b.length + 6 := by unfold bodyL; simp only [List.length_append, low_length]; omega
theorem recL_length (b : List UInt8) : (recL b).length = b.length + 7 := by unfold recL; simp only [List.length_append, bodyL_length]; rfl

/-- What is in the record at the beginning. -/
def nextF (b : List UInt8) : Option (List UInt8) :=
  if 2 ≤ b.length ∧ num (b.take 2) ≤ 65000 ∧ num (b.take 2) + 7 ≤ b.length ∧ sumN (b.take 2 ++ (b.drop 6).take (num (b.take 2))) = num ((b.drop 2).take 4) ∧ b.getD (num (b.take 2) + 6) 0 = 0 then
    some ((b.drop 6).take (num (b.take 2))) else none

theorem nextF_some {b x : List UInt8} (h : nextF b = some x) : x.length + 7 ≤ b.length ∧ x.length = num (b.take 2) ∧ x = (b.drop 6).take x.length := by
  unfold nextF at h
  split at h
  · rename_i hc
    cases h
    have e : ((b.drop 6).take (num (b.take 2))).length = num (b.take 2) := by rw [List.length_take, List.length_drop]; omega
    rw [e]
    exact ⟨hc.2.2.1, rfl, rfl⟩
  · cases h

/-- A whole record is found. -/
theorem nextF_rec (x r : List UInt8) (hx : x.length ≤ 65000) : nextF (recL x ++ r) = some x := by
  have e1 : (recL x ++ r).take 2 = low x.length 2 := by
    unfold recL bodyL
    rw [List.append_assoc, List.append_assoc, List.take_append_of_le_length (by rw [low_length]; omega), List.take_of_length_le (by rw [low_length]; omega)]
  have e2 : num (low x.length 2) = x.length := by rw [num_low']; exact Nat.mod_eq_of_lt (by omega)
  have e3 : ((recL x ++ r).drop 2).take 4 = low (sumN (low x.length 2 ++ x)) 4 := by
    unfold recL bodyL
    have : (low x.length 2 ++ (low (sumN (low x.length 2 ++ x)) 4 ++ x) ++ [0] ++ r).drop 2 = low (sumN (low x.length 2 ++ x)) 4 ++ (x ++ [0] ++ r) := by
      rw [List.append_assoc, List.append_assoc, List.drop_append_of_le_length (by rw [low_length]; omega), List.drop_of_length_le (by rw [low_length]; omega)]
      simp
    rw [this, List.take_append_of_le_length (by rw [low_length]; omega), List.take_of_length_le (by rw [low_length]; omega)]
  have e4 : ((recL x ++ r).drop 6).take x.length = x := by
    unfold recL bodyL
    have : (low x.length 2 ++ (low (sumN (low x.length 2 ++ x)) 4 ++ x) ++ [0] ++ r) = (low x.length 2 ++ low (sumN (low x.length 2 ++ x)) 4) ++ (x ++ [0] ++ r) := by simp
    rw [this, List.drop_append_of_le_length (by simp only [List.length_append, low_length]; omega), List.drop_of_length_le (by simp only [List.length_append, low_length]; omega)]
    simp
  have e5 : (recL x ++ r).getD (x.length + 6) 0 = 0 := by
    unfold recL
    rw [List.getD_eq_getElem?_getD, List.append_assoc, List.getElem?_append_right (by rw [bodyL_length]; omega), bodyL_length]
    simp
  have hl : (recL x ++ r).length = x.length + 7 + r.length := by rw [List.length_append, recL_length]
  have hs := sumN_lt (low x.length 2 ++ x)
  unfold nextF
  rw [e1, e2, e3, e4, e5, hl, num_low', if_pos ⟨by omega, by omega, by omega, (Nat.mod_eq_of_lt (by omega)).symm, rfl⟩]

/-- The records at the beginning, and how many bytes they have. -/
def scanF : Nat → List UInt8 → List (List UInt8)
  | 0, _ => []
  | f + 1, b => match nextF b with
    | none => []
    | some x => x :: scanF f (b.drop (x.length + 7))
def endF (xs : List (List UInt8)) : Nat := (xs.map fun x => x.length + 7).sum
theorem endF_cons (x : List UInt8) (xs : List (List UInt8)) : endF (x :: xs) = x.length + 7 + endF xs := by simp [endF]
theorem endF_append (xs ys : List (List UInt8)) : endF (xs ++ ys) = endF xs + endF ys := by simp [endF]
theorem endF_snoc (xs : List (List UInt8)) (x : List UInt8) : endF (xs ++ [x]) = endF xs + (x.length + 7) := by simp [endF]

theorem scanF_le (f : Nat) (b : List UInt8) : endF (scanF f b) ≤ b.length := by
  induction f generalizing b with
  | zero => simp [scanF, endF]
  | succ f ih =>
    unfold scanF
    cases h : nextF b with
    | none => simp [endF]
    | some x =>
      have h1 := (nextF_some h).1
      have h2 := ih (b.drop (x.length + 7))
      rw [List.length_drop] at h2
      simp only
      rw [endF_cons]
      omega

/-- All records in some bytes. -/
def recsF (b : List UInt8) : List (List UInt8) := scanF b.length b
/-- Are all bytes behind them erased? -/
def cleanF (b : List UInt8) : Bool := (b.drop (endF (recsF b))).all (· == 255)

theorem scanF_fuel (f g : Nat) (b : List UInt8) (hf : b.length ≤ f) (hg : b.length ≤ g) : scanF f b = scanF g b := by
  induction f generalizing g b with
  | zero =>
    have : b = [] := List.eq_nil_of_length_eq_zero (by omega)
    subst this
    cases g with
    | zero => rfl
    | succ g => simp [scanF, nextF]
  | succ f ih =>
    cases g with
    | zero =>
      have : b = [] := List.eq_nil_of_length_eq_zero (by omega)
      subst this
      simp [scanF, nextF]
    | succ g =>
      unfold scanF
      cases h : nextF b with
      | none => rfl
      | some x =>
        have h1 := (nextF_some h).1
        simp only
        rw [ih g (b.drop (x.length + 7)) (by rw [List.length_drop]; omega) (by rw [List.length_drop]; omega)]

theorem recsF_none {b : List UInt8} (h : nextF b = none) : recsF b = [] := by
  unfold recsF
  cases hl : b.length with
  | zero => rfl
  | succ n => unfold scanF; rw [h]
theorem recsF_some {b x : List UInt8} (h : nextF b = some x) : recsF b = x :: recsF (b.drop (x.length + 7)) := by
  have h1 := (nextF_some h).1
  unfold recsF
  obtain ⟨n, hn⟩ : ∃ n, b.length = n + 1 := ⟨b.length - 1, by omega⟩
  rw [hn]
  conv => lhs; unfold scanF
  rw [h]
  simp only
  rw [scanF_fuel n (b.drop (x.length + 7)).length _ (by rw [List.length_drop]; omega) (Nat.le_refl _)]

/-- Whole records ahead of any bytes. -/
theorem recsF_all (xs : List (List UInt8)) (r : List UInt8) (h : ∀ x ∈ xs, x.length ≤ 65000) : recsF ((xs.map recL).flatten ++ r) = xs ++ recsF r := by
  induction xs with
  | nil => simp
  | cons x xs ih =>
    have h1 := nextF_rec x ((xs.map recL).flatten ++ r) (h x (by simp))
    rw [List.map_cons, List.flatten_cons, List.append_assoc, recsF_some h1]
    rw [List.drop_append_of_le_length (by rw [recL_length]; omega), List.drop_of_length_le (by rw [recL_length]; omega), List.nil_append, ih (fun y hy => h y (by simp [hy]))]
    rfl
theorem endF_flat (xs : List (List UInt8)) : ((xs.map recL).flatten).length = endF xs := by
  induction xs with
  | nil => rfl
  | cons x xs ih => rw [List.map_cons, List.flatten_cons, List.length_append, recL_length, ih, endF_cons]

/-- The document's test of a record is the same. -/
theorem body_same {b : List UInt8} (h2 : 2 ≤ b.length) (hn : num (b.take 2) + 7 ≤ b.length) :
    (bodyL ((b.drop 6).take (num (b.take 2))) = b.take (6 + num (b.take 2))) ↔ sumN (b.take 2 ++ (b.drop 6).take (num (b.take 2))) = num ((b.drop 2).take 4) := by
  obtain ⟨n, hnn⟩ : ∃ n, num (b.take 2) = n := ⟨_, rfl⟩
  obtain ⟨x, hx⟩ : ∃ x, (b.drop 6).take n = x := ⟨_, rfl⟩
  have hn16 : n < 65536 := by have := num_lt (b.take 2); rw [List.length_take, Nat.min_eq_left h2, hnn] at this; exact this
  rw [hnn] at hn ⊢
  rw [hx]
  have hxl : x.length = n := by rw [← hx, List.length_take, List.length_drop]; omega
  have hlow : low x.length 2 = b.take 2 := by
    refine num_inj' _ _ (by rw [low_length, List.length_take]; omega) ?_
    rw [num_low', hnn, hxl]
    exact Nat.mod_eq_of_lt (by omega)
  have hb : b.take (6 + n) = b.take 2 ++ ((b.drop 2).take 4 ++ x) := by
    rw [← hx]
    apply List.ext_getElem?
    intro i
    by_cases h1 : i < 2
    · rw [List.getElem?_take_of_lt (by omega), List.getElem?_append_left (by rw [List.length_take]; omega), List.getElem?_take_of_lt h1]
    · rw [List.getElem?_append_right (by rw [List.length_take]; omega), List.length_take, Nat.min_eq_left h2]
      by_cases h3 : i < 6
      · rw [List.getElem?_take_of_lt (by omega), List.getElem?_append_left (by rw [List.length_take, List.length_drop]; omega), List.getElem?_take_of_lt (by omega), List.getElem?_drop]
        congr 1; omega
      · rw [List.getElem?_append_right (by rw [List.length_take, List.length_drop]; omega), List.length_take, List.length_drop, Nat.min_eq_left (by omega)]
        by_cases h4 : i < 6 + n
        · rw [List.getElem?_take_of_lt h4, List.getElem?_take_of_lt (by omega), List.getElem?_drop]
          congr 1; omega
        · rw [List.getElem?_eq_none (by rw [List.length_take]; omega), List.getElem?_eq_none (by rw [List.length_take, List.length_drop]; omega)]
  have hs := sumN_lt (b.take 2 ++ x)
  unfold bodyL
  rw [hlow, hb]
  constructor
  · intro h
    have h1 := List.append_cancel_left h
    have h2' := List.append_cancel_right h1
    rw [← h2', num_low']
    exact (Nat.mod_eq_of_lt (by omega)).symm
  · intro h
    have : low (sumN (b.take 2 ++ x)) 4 = (b.drop 2).take 4 := by
      refine num_inj' _ _ (by rw [low_length, List.length_take, List.length_drop]; omega) ?_
      rw [num_low', ← h]
      exact Nat.mod_eq_of_lt (by omega)
    rw [this]

/-- One byte that is another one is seen, however many there are. -/
theorem seen_any (l : List UInt8) (i : Nat) (h : i < l.length) (v : UInt8) (hv : v ≠ l[i]) : sumN (l.set i v) ≠ sumN l := by
  intro e
  have h1 := ((sumN_closed _ _).1 e).1
  have h2 := sS_set l i h v
  have h3 := v.toNat_lt
  have h4 := l[i].toNat_lt
  have h5 : v.toNat ≠ l[i].toNat := fun e => hv (UInt8.toNat_inj.1 e)
  omega
end Go.Proofs.Ytcdgpioljilgeaa
