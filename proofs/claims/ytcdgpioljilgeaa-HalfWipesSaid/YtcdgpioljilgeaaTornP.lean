/- Plain laws on torn records: a part of a record with erased bytes behind is none; a byte that is another one takes a record away. -/
import Derived.Test.YtcdgpioljilgeaaFrameP
import Derived.Test.YtcdgpioljilgeaaNorP
set_option linter.unusedVariables false
set_option maxRecDepth 100000
set_option linter.unusedSimpArgs false
namespace Go.Proofs.Ytcdgpioljilgeaa
open Go.RowKit

theorem nextF_len {b : List UInt8} (h : num (b.take 2) > 65000) : nextF b = none := by
  unfold nextF
  rw [if_neg (by omega)]
theorem num_two (x y : UInt8) (r : List UInt8) : num ((x :: y :: r).take 2) = x.toNat + 256 * y.toNat := by
  simp [num]
theorem low2 (n : Nat) : ∃ x y : UInt8, low n 2 = [x, y] := by
  have := low_length n 2
  match h : low n 2, this with
  | [x, y], _ => exact ⟨x, y, rfl⟩
theorem recL_head (y : List UInt8) : ∃ p q r, recL y = p :: q :: r ∧ r.length = y.length + 5 ∧ low y.length 2 = [p, q] := by
  obtain ⟨p, q, h⟩ := low2 y.length
  have hl := recL_length y
  refine ⟨p, q, low (sumN (low y.length 2 ++ y)) 4 ++ y ++ [0], ?_, by simp [low_length]; omega, h⟩
  unfold recL bodyL
  rw [h]
  simp

/-- The beginning of a record, erased bytes behind it: none. -/
theorem nextF_torn (y : List UInt8) (m k : Nat) (hy : y.length ≤ 65000) (hm : m < y.length + 7) : nextF ((recL y).take m ++ ffs k) = none := by
  obtain ⟨p, q, r, hr, hrl, hlow⟩ := recL_head y
  have hnum : num [p, q] = y.length := by rw [← hlow, num_low']; exact Nat.mod_eq_of_lt (by omega)
  rw [hr]
  match m with
  | 0 =>
    simp only [List.take_zero, List.nil_append]
    match k with
    | 0 => rfl
    | 1 => rfl
    | k + 2 => exact nextF_len (by rw [show ffs (k + 2) = 255 :: 255 :: ffs k from rfl, num_two]; decide)
  | 1 =>
    match k with
    | 0 =>
      unfold nextF
      rw [if_neg (by simp [ffs])]
    | k + 1 =>
      refine nextF_len ?_
      rw [show (p :: q :: r).take 1 ++ ffs (k + 1) = p :: 255 :: ffs k from rfl, num_two]
      have : (255 : UInt8).toNat = 255 := rfl
      omega
  | m + 2 =>
    have e : (p :: q :: r).take (m + 2) ++ ffs k = p :: q :: (r.take m ++ ffs k) := rfl
    rw [e]
    unfold nextF
    have e2 : num ((p :: q :: (r.take m ++ ffs k)).take 2) = y.length := hnum
    rw [e2, if_neg]
    rintro ⟨-, -, h3, -, h5⟩
    rw [List.getD_eq_getElem?_getD, show y.length + 6 = (y.length + 4) + 2 from rfl, List.getElem?_cons_succ, List.getElem?_cons_succ] at h5
    rw [List.getElem?_append_right (by rw [List.length_take]; omega), List.length_take, Nat.min_eq_left (by omega)] at h5
    simp only [List.length_cons, List.length_append, List.length_take, ffs_length] at h3
    unfold ffs at h5
    rw [List.getElem?_replicate, if_pos (by omega)] at h5
    exact absurd h5 (by decide)

/-- A byte of a record, behind its length, is another one: none. -/
theorem nextF_spoilt (y R : List UInt8) (p : Nat) (v : UInt8) (hy : y.length ≤ 65000) (h2 : 2 ≤ p) (hp : p < y.length + 7) (hv : (recL y)[p]? ≠ some v) : nextF ((recL y).set p v ++ R) = none := by
  have hs := sumN_lt (low y.length 2 ++ y)
  obtain ⟨S, hS⟩ : ∃ S, low (sumN (low y.length 2 ++ y)) 4 = S := ⟨_, rfl⟩
  have hSl : S.length = 4 := by rw [← hS, low_length]
  have hSn : num S = sumN (low y.length 2 ++ y) := by rw [← hS, num_low']; exact Nat.mod_eq_of_lt (by omega)
  obtain ⟨L, hL⟩ : ∃ L, low y.length 2 = L := ⟨_, rfl⟩
  have hLl : L.length = 2 := by rw [← hL, low_length]
  have hLn : num L = y.length := by rw [← hL, num_low']; exact Nat.mod_eq_of_lt (by omega)
  rw [hL] at hSn hS
  have hrec : recL y = L ++ (S ++ (y ++ [0])) := by unfold recL bodyL; rw [hL, hS]; simp
  rw [hrec] at hv ⊢
  have key : ∀ (S' y' : List UInt8) (f : UInt8) (T : List UInt8), S'.length = 4 → y'.length = y.length → (sumN (L ++ y') ≠ num S' ∨ f ≠ 0) → nextF (L ++ (S' ++ (y' ++ [f])) ++ R) = none := by
    intro S' y' f _ h1 h2' h3
    have e0 : L ++ (S' ++ (y' ++ [f])) ++ R = L ++ (S' ++ (y' ++ (f :: R))) := by simp
    have e1 : (L ++ (S' ++ (y' ++ (f :: R)))).take 2 = L := by rw [List.take_append_of_le_length (by omega), List.take_of_length_le (by omega)]
    have e2 : (L ++ (S' ++ (y' ++ (f :: R)))).drop 2 = S' ++ (y' ++ (f :: R)) := by rw [List.drop_append_of_le_length (by omega), List.drop_of_length_le (by omega), List.nil_append]
    have e3 : (S' ++ (y' ++ (f :: R))).take 4 = S' := by rw [List.take_append_of_le_length (by omega), List.take_of_length_le (by omega)]
    have e4 : (L ++ (S' ++ (y' ++ (f :: R)))).drop 6 = y' ++ (f :: R) := by
      rw [show 6 = 2 + 4 from rfl, ← List.drop_drop, e2, List.drop_append_of_le_length (by omega), List.drop_of_length_le (by omega), List.nil_append]
    have e5 : (y' ++ (f :: R)).take y.length = y' := by rw [List.take_append_of_le_length (by omega), List.take_of_length_le (by omega)]
    have e6 : (L ++ (S' ++ (y' ++ (f :: R)))).getD (y.length + 6) 0 = f := by
      rw [List.getD_eq_getElem?_getD, List.getElem?_append_right (by omega), List.getElem?_append_right (by omega), List.getElem?_append_right (by omega)]
      have : y.length + 6 - L.length - S'.length - y'.length = 0 := by omega
      rw [this]
      rfl
    rw [e0]
    unfold nextF
    rw [e1, e2, e3, e4, hLn, e5, e6, if_neg]
    rintro ⟨-, -, -, h4, h5⟩
    rcases h3 with h3 | h3
    · exact h3 h4
    · exact h3 h5
  by_cases c1 : p < 6
  · have hpl : p - 2 < S.length := by omega
    have e : (L ++ (S ++ (y ++ [0]))).set p v = L ++ (S.set (p - 2) v ++ (y ++ [0])) := by
      rw [List.set_append_right _ _ (by omega), hLl, List.set_append_left _ _ hpl]
    rw [e]
    refine key _ _ _ [] (by rw [List.length_set]; exact hSl) rfl (Or.inl fun h => hv ?_)
    have h9 : S.set (p - 2) v = S := num_inj' _ _ (by rw [List.length_set]) (by rw [← h, hSn])
    rw [List.getElem?_append_right (by omega), hLl, List.getElem?_append_left hpl]
    have h10 := congrArg (fun l => l[p - 2]?) h9
    simp only [List.getElem?_set_self hpl] at h10
    exact h10.symm
  · by_cases c2 : p < y.length + 6
    · have hpl : p - 6 < y.length := by omega
      have e : (L ++ (S ++ (y ++ [0]))).set p v = L ++ (S ++ (y.set (p - 6) v ++ [0])) := by
        rw [List.set_append_right _ _ (by omega), List.set_append_right _ _ (by omega), List.set_append_left _ _ (by omega), hLl, hSl, show p - 2 - 4 = p - 6 from by omega]
      rw [e]
      refine key _ _ _ [] hSl (by rw [List.length_set]) (Or.inl fun h => ?_)
      rw [hSn] at h
      have e7 : L ++ y.set (p - 6) v = (L ++ y).set (2 + (p - 6)) v := by rw [List.set_append_right _ _ (by omega), hLl, show 2 + (p - 6) - 2 = p - 6 from by omega]
      rw [e7] at h
      refine seen_any (L ++ y) (2 + (p - 6)) (by rw [List.length_append]; omega) v (fun h8 => hv ?_) h
      rw [List.getElem?_append_right (by omega), hLl, List.getElem?_append_right (by omega), hSl, List.getElem?_append_left (by omega), h8, List.getElem_append_right (by omega), List.getElem?_eq_getElem (by omega)]
      simp only [hLl]
      congr 2
      omega
    · obtain rfl : p = y.length + 6 := by omega
      have e : (L ++ (S ++ (y ++ [0]))).set (y.length + 6) v = L ++ (S ++ (y ++ [v])) := by
        rw [List.set_append_right _ _ (by omega), List.set_append_right _ _ (by omega), List.set_append_right _ _ (by omega), hLl, hSl, show y.length + 6 - 2 - 4 - y.length = 0 from by omega]
        rfl
      rw [e]
      refine key _ _ _ [] hSl rfl (Or.inr fun h => hv ?_)
      rw [List.getElem?_append_right (by omega), List.getElem?_append_right (by omega), List.getElem?_append_right (by omega), hLl, hSl, show y.length + 6 - 2 - 4 - y.length = 0 from by omega, h]
      rfl

theorem flat_split (xs : List (List UInt8)) (k : Nat) (hk : k < xs.length) : (xs.map recL).flatten = ((xs.take k).map recL).flatten ++ (recL xs[k] ++ ((xs.drop (k + 1)).map recL).flatten) := by
  have e : xs = xs.take k ++ xs[k] :: xs.drop (k + 1) := by rw [← List.drop_eq_getElem_cons hk, List.take_append_drop]
  have e2 := congrArg (fun l => (l.map recL).flatten) e
  simp only [List.map_append, List.map_cons, List.flatten_append, List.flatten_cons] at e2
  exact e2
theorem endF_next (xs : List (List UInt8)) (k : Nat) (hk : k < xs.length) : endF (xs.take (k + 1)) = endF (xs.take k) + (xs[k].length + 7) := by
  rw [List.take_succ_eq_append_getElem hk, endF_snoc]
theorem take_all_ff (k : Nat) : (ffs k).all (· == 255) = true := by simp [ffs]

/-- Records cut somewhere, erased bytes behind: those are found that are whole. -/
theorem recs_torn (xs : List (List UInt8)) (X : List UInt8) (hX : X = (xs.map recL).flatten) (h : ∀ x ∈ xs, x.length ≤ 65000) (k cut b : Nat) (hk : k ≤ xs.length) (h1 : endF (xs.take k) ≤ cut) (h2 : k < xs.length → cut < endF (xs.take (k + 1))) (hc : cut ≤ X.length) :
    recsF (X.take cut ++ ffs b) = xs.take k ∧ endF (recsF (X.take cut ++ ffs b)) = endF (xs.take k) ∧ (endF (xs.take k) = cut → cleanF (X.take cut ++ ffs b) = true) := by
  have hlen : (((xs.take k).map recL).flatten).length = endF (xs.take k) := endF_flat _
  have ht : ∀ x ∈ xs.take k, x.length ≤ 65000 := fun x hx => h x (List.mem_of_mem_take hx)
  have main : recsF (X.take cut ++ ffs b) = xs.take k := by
    by_cases hk2 : k < xs.length
    · have h3 := h2 hk2
      rw [endF_next xs k hk2] at h3
      have e : X.take cut ++ ffs b = ((xs.take k).map recL).flatten ++ ((recL xs[k]).take (cut - endF (xs.take k)) ++ ffs b) := by
        rw [hX, flat_split xs k hk2, List.take_append, hlen, List.take_of_length_le (by omega), List.append_assoc, List.take_append_of_le_length (by rw [recL_length]; omega)]
      rw [e, recsF_all _ _ ht, recsF_none (nextF_torn _ _ _ (h _ (List.getElem_mem hk2)) (by omega)), List.append_nil]
    · obtain rfl : k = xs.length := by omega
      have e0 : X.length = endF xs := by rw [hX, endF_flat]
      rw [List.take_length] at h1 hlen ⊢
      have e : X.take cut = (xs.map recL).flatten := by rw [hX]; apply List.take_of_length_le; omega
      rw [e, recsF_all _ _ h, recsF_none, List.append_nil]
      have := nextF_torn [] 0 b (by simp) (by simp)
      simpa using this
  refine ⟨main, by rw [main], fun h3 => ?_⟩
  unfold cleanF
  rw [main, h3, List.drop_append_of_le_length (by rw [List.length_take]; omega), List.drop_of_length_le (by rw [List.length_take]; omega), List.nil_append]
  exact take_all_ff b

/-- One byte, behind a record's length, is another one. -/
theorem recs_spoilt (xs : List (List UInt8)) (X : List UInt8) (hX : X = (xs.map recL).flatten) (h : ∀ x ∈ xs, x.length ≤ 65000) (k at' : Nat) (hk : k < xs.length) (h1 : endF (xs.take k) + 2 ≤ at') (h2 : at' < endF (xs.take (k + 1))) (v : UInt8) (hv : X[at']? ≠ some v) :
    recsF (X.set at' v) = xs.take k ∧ endF (recsF (X.set at' v)) = endF (xs.take k) := by
  have hlen : (((xs.take k).map recL).flatten).length = endF (xs.take k) := endF_flat _
  have ht : ∀ x ∈ xs.take k, x.length ≤ 65000 := fun x hx => h x (List.mem_of_mem_take hx)
  rw [endF_next xs k hk] at h2
  have main : recsF (X.set at' v) = xs.take k := by
    have e := flat_split xs k hk
    rw [← hX] at e
    rw [e, List.set_append_right _ _ (by omega), List.set_append_left _ _ (by rw [recL_length]; omega), recsF_all _ _ ht, recsF_none, List.append_nil]
    refine nextF_spoilt _ _ _ _ (h _ (List.getElem_mem hk)) (by omega) (by omega) (fun h9 => hv ?_)
    rw [e, List.getElem?_append_right (by omega), List.getElem?_append_left (by rw [recL_length]; omega)]
    exact h9
  exact ⟨main, by rw [main]⟩

/-- The ends of records. -/
def endsL (xs : List (List UInt8)) : List Int := (List.range xs.length).map fun i => (endF (xs.take (i + 1)) : Int)
theorem endsL_length (xs : List (List UInt8)) : (endsL xs).length = xs.length := by simp [endsL]
theorem endsL_get (xs : List (List UInt8)) (i : Nat) (hi : i < xs.length) : (endsL xs)[i]? = some (endF (xs.take (i + 1)) : Int) := by simp [endsL, hi]
theorem endsL_snoc (xs : List (List UInt8)) (x : List UInt8) : endsL (xs ++ [x]) = endsL xs ++ [(endF (xs ++ [x]) : Int)] := by
  unfold endsL
  rw [List.length_append, List.length_singleton, List.range_succ, List.map_append]
  congr 1
  · apply List.map_congr_left
    intro i hi
    have : i < xs.length := by simpa using hi
    rw [List.take_append_of_le_length (by omega)]
  · simp [List.take_of_length_le]
theorem endF_mono (xs : List (List UInt8)) (i j : Nat) (h : i ≤ j) : endF (xs.take i) ≤ endF (xs.take j) := by
  have e : xs.take j = xs.take i ++ (xs.take j).drop i := by
    conv => lhs; rw [← List.take_append_drop i (xs.take j)]
    rw [List.take_take, Nat.min_eq_left h]
  rw [e, endF_append]
  omega

/-- Of the first i ends the k-th is the last one that is not behind a place. -/
def UptoF (xs : List (List UInt8)) (k i ct : Nat) : Prop := endF (xs.take k) ≤ ct ∧ ∀ j, k < j → j ≤ i → ct < endF (xs.take j)
theorem UptoF.zero (xs : List (List UInt8)) (ct : Nat) : UptoF xs 0 0 ct := ⟨Nat.zero_le _, fun j h1 h2 => by omega⟩
theorem UptoF.yes {xs : List (List UInt8)} {i ct : Nat} (h : endF (xs.take (i + 1)) ≤ ct) : UptoF xs (i + 1) (i + 1) ct := ⟨h, fun j h1 h2 => by omega⟩
theorem UptoF.no {xs : List (List UInt8)} {k i ct : Nat} (h : UptoF xs k i ct) (h2 : ct < endF (xs.take (i + 1))) : UptoF xs k (i + 1) ct :=
  ⟨h.1, fun j h3 h4 => by
    by_cases e : j ≤ i
    · exact h.2 j h3 e
    · obtain rfl : j = i + 1 := by omega
      exact h2⟩
end Go.Proofs.Ytcdgpioljilgeaa
