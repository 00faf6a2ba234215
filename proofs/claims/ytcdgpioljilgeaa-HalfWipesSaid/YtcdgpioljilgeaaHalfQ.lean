/- Plain laws on halves of a chip: records behind records on erased bytes, torn somewhere; halves that are wiped. -/
import Derived.Test.YtcdgpioljilgeaaHalfP
import Derived.Test.YtcdgpioljilgeaaTornP
set_option linter.unusedVariables false
set_option maxRecDepth 100000
set_option linter.unusedSimpArgs false
namespace Go.Proofs.Ytcdgpioljilgeaa
open Go.RowKit

theorem splice_ff (U c T : List UInt8) (R : Nat) (h : c.length ≤ R) : splice (U ++ (ffs R ++ T)) U.length c = U ++ (c ++ (ffs (R - c.length) ++ T)) := by
  unfold splice
  rw [List.take_append_of_le_length (Nat.le_refl _), List.take_length, List.drop_append, List.drop_of_length_le (Nat.le_add_right _ _), List.nil_append, Nat.add_sub_cancel_left,
    List.drop_append_of_le_length (by rw [ffs_length]; exact h), List.append_assoc]
  congr 3
  unfold ffs
  rw [List.drop_replicate]
theorem bitsBad_ff (U c T : List UInt8) (R : Nat) (h : c.length ≤ R) : bitsBad (U ++ (ffs R ++ T)) U.length c = false := by
  refine bitsBad_all _ _ _ (fun i hi => ?_)
  have : (U ++ (ffs R ++ T)).getD (U.length + i) 0 = 255 := by
    rw [List.getD_eq_getElem?_getD, List.getElem?_append_right (by omega), Nat.add_sub_cancel_left, List.getElem?_append_left (by rw [ffs_length]; omega), ffs_get _ _ (by omega)]
    rfl
  rw [this]
  have : (~~~ (255 : UInt8)) = 0 := by decide
  rw [this, UInt8.and_zero]
theorem len_ff (U c T : List UInt8) (R : Nat) (h : c.length ≤ R) : U.length + c.length ≤ (U ++ (ffs R ++ T)).length := by
  simp only [List.length_append, ffs_length]; omega

/-- Programmed onto erased bytes: all of it. -/
theorem prog_all (s : PS) (U c T : List UInt8) (R : Nat) (h : c.length ≤ R) (hoff : s.off = false) (h1 : -1 ≤ s.left) (h2 : s.left < 0 ∨ (c.length : Int) ≤ s.left) {x : Int} (hx : x = (U.length : Int)) :
    progE s (U ++ (ffs R ++ T)) x c = (0, U ++ (c ++ (ffs (R - c.length) ++ T)), s.run c.length) := by
  rw [hx, progE_run s _ _ c (len_ff _ _ _ _ h) (bitsBad_ff _ _ _ _ h) hoff h1 h2, splice_ff _ _ _ _ h]
theorem ff_and (m : UInt8) : (255 : UInt8) &&& m = m := by
  have : (255 : UInt8) = ~~~ 0 := by decide
  rw [this, UInt8.not_zero]
  exact UInt8.neg_one_and
/-- Programmed onto erased bytes, torn at one. -/
theorem prog_cut (s : PS) (U c T : List UInt8) (R k : Nat) (h : c.length ≤ R) (hoff : s.off = false) (h1 : s.left = (k : Int)) (hk : k < c.length) {x : Int} (hx : x = (U.length : Int)) :
    progE s (U ++ (ffs R ++ T)) x c = (6, U ++ (c.take k ++ ([c[k] ||| s.mask] ++ (ffs (R - (k + 1)) ++ T))), (s.run k).stop) := by
  have hl : (c.take k).length = k := by rw [List.length_take]; omega
  rw [hx, progE_cut s _ _ c k (len_ff _ _ _ _ h) (bitsBad_ff _ _ _ _ h) hoff h1 hk, splice_ff _ _ _ _ (by omega)]
  have e : (U ++ (ffs R ++ T)).getD (U.length + k) 0 = 255 := by
    rw [List.getD_eq_getElem?_getD, List.getElem?_append_right (by omega), Nat.add_sub_cancel_left, List.getElem?_append_left (by rw [ffs_length]; omega), ffs_get _ _ (by omega)]
    rfl
  rw [e, ff_and, hl, List.set_append_right _ _ (by omega), Nat.add_sub_cancel_left, List.set_append_right _ _ (by omega), hl, Nat.sub_self]
  have e2 : ffs (R - k) = 255 :: ffs (R - (k + 1)) := by
    rw [show R - k = (R - (k + 1)) + 1 by omega]
    rfl
  rw [e2]
  rfl

/-- A half's bytes stand in the middle. -/
theorem halfL_is {g : Geo} {x : Int} (hx : isHalf x) (U H T : List UInt8) (hU : U.length = x.toNat * halfN g) (hH : H.length = halfN g) : halfL g (U ++ (H ++ T)) x = H := by
  unfold halfL
  rw [if_pos hx, ← hU, List.drop_append_of_le_length (Nat.le_refl _), List.drop_length, List.nil_append, ← hH, List.take_append_of_le_length (Nat.le_refl _), List.take_length]
theorem half_pos {x : Int} (hx : isHalf x) (n : Nat) : x * (n : Int) = ((x.toNat * n : Nat) : Int) := by
  unfold isHalf at hx
  rcases hx with rfl | rfl
  · have : (0 : Int).toNat = 0 := rfl
    rw [this]; omega
  · have : (1 : Int).toNat = 1 := rfl
    rw [this]; omega

section
variable {g : Geo} {s : PS} {x : Int} {U P T bs : List UInt8} {R m : Nat}
theorem app_head (hx : isHalf x) (hH : P.length + R = halfN g) (hm : bs.length = m) (hR : m + 7 ≤ R) (l : List UInt8) : appE g s l x (P.length : Int) bs =
    (if (progE s l (x * halfN g + (P.length : Int)) (bodyL bs)).1 ≠ 0 then progE s l (x * halfN g + (P.length : Int)) (bodyL bs)
    else progE (progE s l (x * halfN g + (P.length : Int)) (bodyL bs)).2.2 (progE s l (x * halfN g + (P.length : Int)) (bodyL bs)).2.1 (x * halfN g + (P.length : Int) + ((bs.length : Int) + 6)) [0]) := by
  unfold appE
  rw [if_neg (by rintro (q | q); exact q hx; omega), if_neg (by omega)]
theorem app_pos (hx : isHalf x) (hU : U.length = x.toNat * halfN g) : x * halfN g + (P.length : Int) = ((U ++ P).length : Int) := by
  rw [half_pos hx, ← hU, List.length_append]; push_cast; rfl

theorem run_off (k : Nat) : (s.run k).off = s.off := rfl
theorem run_left (k : Nat) : (s.run k).left = if s.left < 0 then s.left else s.left - k := rfl
theorem run_mask (k : Nat) : (s.run k).mask = s.mask := rfl

/-- A record that is appended, with power for all of it. -/
theorem app_run (hx : isHalf x) (hU : U.length = x.toNat * halfN g) (hH : P.length + R = halfN g) (hm : bs.length = m) (hR : m + 7 ≤ R) (hoff : s.off = false) (h1 : -1 ≤ s.left) (h2 : s.left < 0 ∨ ((m + 7 : Nat) : Int) ≤ s.left) :
    appE g s (U ++ (P ++ (ffs R ++ T))) x (P.length : Int) bs = (0, U ++ (P ++ (recL bs ++ (ffs (R - (m + 7)) ++ T))), s.run (m + 7)) := by
  have hb : (bodyL bs).length = m + 6 := by rw [bodyL_length, hm]
  have e1 := prog_all s (U ++ P) (bodyL bs) T R (by omega) hoff h1 (by omega) (app_pos (P := P) hx hU)
  rw [List.append_assoc] at e1
  have e3 : (bodyL bs) ++ (ffs (R - (bodyL bs).length) ++ T) = (bodyL bs) ++ (ffs (R - (m + 6)) ++ T) := by rw [hb]
  have e2 := prog_all (s.run (m + 6)) (U ++ P ++ bodyL bs) [0] T (R - (m + 6)) (by simp; omega) (by rw [run_off]; exact hoff) (by rw [run_left]; split <;> omega) (by rw [run_left]; simp; split <;> omega)
    (x := x * halfN g + (P.length : Int) + ((bs.length : Int) + 6)) (by rw [app_pos hx hU]; have e9 : (U ++ P ++ bodyL bs).length = (U ++ P).length + (bodyL bs).length := List.length_append; omega)
  rw [app_head hx hH hm hR, e1]
  simp only [ne_eq, not_true_eq_false, if_false]
  rw [hb]
  have e4 : U ++ P ++ (bodyL bs ++ (ffs (R - (m + 6)) ++ T)) = U ++ P ++ bodyL bs ++ (ffs (R - (m + 6)) ++ T) := by simp
  rw [e4, e2]
  have e5 : (s.run (m + 6)).run ([0] : List UInt8).length = s.run (m + 7) := by
    rw [show ([0] : List UInt8).length = 1 from rfl, PS.run_run _ _ _ (by omega)]
  rw [e5]
  refine Prod.ext rfl (Prod.ext ?_ rfl)
  show U ++ P ++ bodyL bs ++ ([0] ++ (ffs (R - (m + 6) - 1) ++ T)) = _
  rw [show R - (m + 6) - 1 = R - (m + 7) by omega]
  unfold recL
  simp

/-- A record that is appended, torn in its body. -/
theorem app_cut (hx : isHalf x) (hU : U.length = x.toNat * halfN g) (hH : P.length + R = halfN g) (hm : bs.length = m) (hR : m + 7 ≤ R) (hoff : s.off = false) {k : Nat} (h1 : s.left = (k : Int)) (hk : k < m + 6) :
    ∃ v, v = (bodyL bs).getD k 0 ||| s.mask ∧ appE g s (U ++ (P ++ (ffs R ++ T))) x (P.length : Int) bs = (6, U ++ (P ++ ((bodyL bs).take k ++ ([v] ++ (ffs (R - (k + 1)) ++ T)))), (s.run k).stop) := by
  have hb : (bodyL bs).length = m + 6 := by rw [bodyL_length, hm]
  have hkb : k < (bodyL bs).length := by omega
  have e1 := prog_cut s (U ++ P) (bodyL bs) T R k (by omega) hoff h1 hkb (app_pos (P := P) hx hU)
  rw [List.append_assoc] at e1
  refine ⟨_, rfl, ?_⟩
  rw [app_head hx hH hm hR, e1]
  simp only [ne_eq, if_true, show ¬ ((6 : Int) = 0) by decide, not_false_eq_true]
  rw [List.getD_eq_getElem?_getD, List.getElem?_eq_getElem hkb]
  simp

/-- A record that is appended, torn at its flag. -/
theorem app_flag (hx : isHalf x) (hU : U.length = x.toNat * halfN g) (hH : P.length + R = halfN g) (hm : bs.length = m) (hR : m + 7 ≤ R) (hoff : s.off = false) (h1 : s.left = ((m + 6 : Nat) : Int)) :
    appE g s (U ++ (P ++ (ffs R ++ T))) x (P.length : Int) bs = (6, U ++ (P ++ (bodyL bs ++ ([s.mask] ++ (ffs (R - (m + 7)) ++ T)))), (s.run (m + 6)).stop) := by
  have hb : (bodyL bs).length = m + 6 := by rw [bodyL_length, hm]
  have e1 := prog_all s (U ++ P) (bodyL bs) T R (by omega) hoff (by omega) (by omega) (app_pos (P := P) hx hU)
  rw [List.append_assoc] at e1
  have e2 := prog_cut (s.run (m + 6)) (U ++ P ++ bodyL bs) [0] T (R - (m + 6)) 0 (by simp; omega) (by rw [run_off]; exact hoff) (by rw [run_left]; split <;> omega) (by simp)
    (x := x * halfN g + (P.length : Int) + ((bs.length : Int) + 6)) (by rw [app_pos hx hU]; have e9 : (U ++ P ++ bodyL bs).length = (U ++ P).length + (bodyL bs).length := List.length_append; omega)
  rw [app_head hx hH hm hR, e1]
  simp only [ne_eq, not_true_eq_false, if_false]
  rw [hb]
  have e4 : U ++ P ++ (bodyL bs ++ (ffs (R - (m + 6)) ++ T)) = U ++ P ++ bodyL bs ++ (ffs (R - (m + 6)) ++ T) := by simp
  rw [e4, e2, PS.run_zero]
  refine Prod.ext rfl (Prod.ext ?_ rfl)
  show U ++ P ++ bodyL bs ++ ([] ++ ([(0 : UInt8) ||| s.mask] ++ (ffs (R - (m + 6) - (0 + 1)) ++ T))) = _
  rw [show R - (m + 6) - (0 + 1) = R - (m + 7) by omega, UInt8.zero_or]
  simp
end

/-- A record torn in its body is none. -/
theorem nextF_torn2 (y : List UInt8) (k R : Nat) (v : UInt8) (hy : y.length < 256) (hk : k < y.length + 6) (hv : k = 0 ∨ k ≠ 0) : nextF ((bodyL y).take k ++ ([v] ++ ffs R)) = none := by
  obtain ⟨p, q, r, hr, hrl, hlow⟩ := recL_head y
  have hnum : num [p, q] = y.length := by rw [← hlow, num_low']; exact Nat.mod_eq_of_lt (by omega)
  have hb : (bodyL y).take k = (recL y).take k := by unfold recL; rw [List.take_append_of_le_length (by rw [bodyL_length]; omega)]
  rw [hb, hr]
  match k with
  | 0 =>
    match R with
    | 0 =>
      unfold nextF
      rw [if_neg (by simp [ffs])]
    | R + 1 => exact nextF_len (by rw [show (p :: q :: r).take 0 ++ ([v] ++ ffs (R + 1)) = v :: 255 :: ffs R from rfl, num_two]; have : (255 : UInt8).toNat = 255 := rfl; omega)
  | 1 =>
    have e : (p :: q :: r).take 1 ++ ([v] ++ ffs R) = p :: v :: ffs R := rfl
    rw [e]
    unfold nextF
    obtain ⟨N, hN⟩ : ∃ N, num ((p :: v :: ffs R).take 2) = N := ⟨_, rfl⟩
    rw [hN, if_neg]
    rintro ⟨-, -, h3, -, h5⟩
    rw [List.getD_eq_getElem?_getD, show N + 6 = (N + 4) + 2 from rfl, List.getElem?_cons_succ, List.getElem?_cons_succ] at h5
    simp only [List.length_cons, ffs_length] at h3
    unfold ffs at h5
    rw [List.getElem?_replicate, if_pos (by omega)] at h5
    exact absurd h5 (by decide)
  | m + 2 =>
    have e : (p :: q :: r).take (m + 2) ++ ([v] ++ ffs R) = p :: q :: (r.take m ++ ([v] ++ ffs R)) := rfl
    rw [e]
    unfold nextF
    have e2 : num ((p :: q :: (r.take m ++ ([v] ++ ffs R))).take 2) = y.length := hnum
    rw [e2, if_neg]
    rintro ⟨-, -, h3, -, h5⟩
    rw [List.getD_eq_getElem?_getD, show y.length + 6 = (y.length + 4) + 2 from rfl, List.getElem?_cons_succ, List.getElem?_cons_succ] at h5
    rw [List.getElem?_append_right (by rw [List.length_take]; omega), List.length_take, Nat.min_eq_left (by omega), List.getElem?_append_right (by simp; omega)] at h5
    simp only [List.length_cons, List.length_append, List.length_take, ffs_length, List.length_nil] at h3
    unfold ffs at h5
    rw [List.getElem?_replicate, if_pos (by simp; omega)] at h5
    exact absurd h5 (by decide)
/-- A record whose flag is another one is none. -/
theorem nextF_flag (y : List UInt8) (R : List UInt8) (f : UInt8) (hy : y.length ≤ 65000) (hf : f ≠ 0) : nextF (bodyL y ++ ([f] ++ R)) = none := by
  have h := nextF_spoilt y R (y.length + 6) f hy (by omega) (by omega) (fun e => hf (by
    unfold recL at e
    rw [List.getElem?_append_right (by rw [bodyL_length]; omega), bodyL_length, Nat.sub_self] at e
    injection e with e
    exact e.symm))
  have e : (recL y).set (y.length + 6) f = bodyL y ++ [f] := by
    unfold recL
    rw [List.set_append_right _ _ (by rw [bodyL_length]; omega), bodyL_length, Nat.sub_self]
    rfl
  rw [e, List.append_assoc] at h
  exact h
theorem nextF_ff (R : Nat) : nextF (ffs R) = none := by
  have := nextF_torn [] 0 R (by simp) (by simp)
  simpa using this

theorem recs_a (a : List UInt8) (W : List UInt8) (ha : a.length ≤ 65000) (h : nextF W = none) : recsF (recL a ++ W) = [a] := by
  have := recsF_all [a] W (by simpa using ha)
  simp only [List.map_cons, List.map_nil, List.flatten_cons, List.flatten_nil, List.append_nil] at this
  rw [this, recsF_none h]
  rfl
theorem recs_ab (a b : List UInt8) (W : List UInt8) (ha : a.length ≤ 65000) (hb : b.length ≤ 65000) (h : nextF W = none) : recsF (recL a ++ (recL b ++ W)) = [a, b] := by
  have := recsF_all [a, b] W (by simp; exact ⟨ha, hb⟩)
  simp only [List.map_cons, List.map_nil, List.flatten_cons, List.flatten_nil, List.append_nil, List.append_assoc] at this
  rw [this, recsF_none h]
  rfl

/-! ### wiping -/

section
variable {g : Geo} {l : List UInt8} {cnt : Int → Int} {s : PS}

theorem erase_in (b j : Nat) (hb : ((b + j : Nat) : Int) < g.a) : eraseE g s l cnt ((b : Int) + (j : Int)) =
    (if s.did = true then (0, orL l ((b + j) * g.b.toNat) g.b.toNat 255, s.next, upC cnt ((b + j : Nat) : Int))
     else if s.torn = true then (6, orL l ((b + j) * g.b.toNat) g.b.toNat s.mask, s.next, cnt)
     else (6, l, s.next, cnt)) := by
  unfold eraseE
  have e : (b : Int) + (j : Int) = ((b + j : Nat) : Int) := by push_cast; rfl
  rw [e, if_pos ⟨by omega, hb⟩, Int.toNat_natCast]

theorem sec_le {b j sz A L : Nat} (hL : L = A * sz) (h : b + j < A) : (b + j) * sz + sz ≤ L := by
  rw [hL, ← Nat.succ_mul]
  exact Nat.mul_le_mul_right _ h

/-- Outside of what is wiped nothing is turned. -/
theorem wipe_same {A : Nat} (hA : g.a = (A : Int)) (b j : Nat) (hb : b + j ≤ A) (s : PS) (l : List UInt8) (cnt : Int → Int) (hL : l.length = A * g.b.toNat) {r : Int} {l' : List UInt8} {s' : PS} {cnt' : Int → Int} (h : wipeL g (b : Int) j s l cnt = (r, l', s', cnt')) :
    l'.length = l.length ∧ ∀ i, (i < b * g.b.toNat ∨ (b + j) * g.b.toNat ≤ i) → l'[i]? = l[i]? := by
  induction j generalizing s l cnt with
  | zero => unfold wipeL at h; cases h; exact ⟨rfl, fun _ _ => rfl⟩
  | succ j ih =>
    unfold wipeL at h
    have hin : ((b + j : Nat) : Int) < g.a := by rw [hA]; omega
    rw [erase_in b j hin] at h
    have hle := sec_le (sz := g.b.toNat) (b := b) (j := j) hL (by omega)
    have e0 : (b + (j + 1)) * g.b.toNat = (b + j) * g.b.toNat + g.b.toNat := by rw [← Nat.add_assoc, Nat.succ_mul]
    have e1 : b * g.b.toNat ≤ (b + j) * g.b.toNat := Nat.mul_le_mul_right _ (by omega)
    have key : ∀ m : UInt8, (orL l ((b + j) * g.b.toNat) g.b.toNat m).length = l.length ∧ ∀ i, (i < b * g.b.toNat ∨ (b + (j + 1)) * g.b.toNat ≤ i) → (orL l ((b + j) * g.b.toNat) g.b.toNat m)[i]? = l[i]? := fun m => by
      have hl := orL_length l _ _ m hle
      refine ⟨hl, fun i hi => ?_⟩
      by_cases hil : i < l.length
      · rw [orL_get l _ _ m hle i hil, if_neg (by omega), List.getElem?_eq_getElem hil]
      · rw [List.getElem?_eq_none (by omega), List.getElem?_eq_none (by omega)]
    by_cases hd : s.did = true
    · rw [if_pos hd] at h
      simp only [ne_eq, not_true_eq_false, if_false] at h
      obtain ⟨k1, k2⟩ := key 255
      obtain ⟨h1, h2⟩ := ih (by omega) _ _ _ (by rw [k1]; exact hL) h
      refine ⟨h1.trans k1, fun i hi => ?_⟩
      rw [h2 i (by omega), k2 i hi]
    · rw [if_neg hd] at h
      by_cases ht : s.torn = true
      · rw [if_pos ht] at h
        simp only [ne_eq, show ¬ ((6 : Int) = 0) by decide, not_false_eq_true, if_true] at h
        cases h
        exact key s.mask
      · rw [if_neg ht] at h
        simp only [ne_eq, show ¬ ((6 : Int) = 0) by decide, not_false_eq_true, if_true] at h
        cases h
        exact ⟨rfl, fun _ _ => rfl⟩

/-- With power for so many sectors: those from the end on are counted. -/
theorem wipe_cnt {A : Nat} (hA : g.a = (A : Int)) (b j c : Nat) (hb : b + j ≤ A) (s : PS) (l : List UInt8) (cnt : Int → Int) (hoff : s.off = false) (hc : s.left = (c : Int)) {r : Int} {l' : List UInt8} {s' : PS} {cnt' : Int → Int} (h : wipeL g (b : Int) j s l cnt = (r, l', s', cnt')) :
    (r = if j ≤ c then 0 else 6) ∧ (∀ y : Nat, cnt' (y : Int) = cnt (y : Int) + if b + (j - c) ≤ y ∧ y < b + j then 1 else 0) ∧ s'.done ≤ s.done + j := by
  induction j generalizing s l cnt c with
  | zero =>
    unfold wipeL at h
    cases h
    refine ⟨by rw [if_pos (Nat.zero_le _)], fun y => ?_, Nat.le_refl _⟩
    rw [if_neg (by omega), Int.add_zero]
  | succ j ih =>
    unfold wipeL at h
    have hin : ((b + j : Nat) : Int) < g.a := by rw [hA]; omega
    rw [erase_in b j hin] at h
    match c, hc with
    | 0, hc =>
      have hd : ¬ s.did = true := by rw [PS.did_stop hc]; decide
      rw [if_neg hd, if_pos (PS.torn_stop hoff hc)] at h
      simp only [ne_eq, show ¬ ((6 : Int) = 0) by decide, not_false_eq_true, if_true] at h
      cases h
      refine ⟨by rw [if_neg (by omega)], fun y => ?_, ?_⟩
      · rw [if_neg (by omega), Int.add_zero]
      · have := s.next_done_le
        omega
    | c + 1, hc =>
      have h0 : s.left ≠ 0 := by omega
      rw [if_pos (PS.did_on hoff h0)] at h
      simp only [ne_eq, not_true_eq_false, if_false] at h
      have hn := PS.next_run hoff h0 (by omega)
      obtain ⟨h1, h2, h3⟩ := ih c (by omega) s.next _ _ (by rw [hn]; exact hoff) (by rw [hn]; show (if s.left < 0 then s.left else s.left - (1 : Nat)) = _; rw [if_neg (by omega)]; omega) h
      refine ⟨?_, fun y => ?_, ?_⟩
      · rw [h1]
        by_cases e : j ≤ c
        · rw [if_pos e, if_pos (by omega)]
        · rw [if_neg e, if_neg (by omega)]
      · rw [h2 y]
        unfold upC
        by_cases e : y = b + j
        · subst e
          rw [if_pos rfl, if_neg (by omega), if_pos (by omega), Int.add_zero]
        · rw [if_neg (by omega)]
          by_cases e2 : b + (j - c) ≤ y ∧ y < b + j
          · rw [if_pos e2, if_pos (by omega)]
          · rw [if_neg e2, if_neg (by omega)]
      · have := s.next_done_le
        omega

/-- With power all is erased. -/
theorem wipe_all {A : Nat} (hA : g.a = (A : Int)) (b j : Nat) (hb : b + j ≤ A) (s : PS) (l : List UInt8) (cnt : Int → Int) (hL : l.length = A * g.b.toNat) (hoff : s.off = false) (hc : s.left = -1) {r : Int} {l' : List UInt8} {s' : PS} {cnt' : Int → Int} (h : wipeL g (b : Int) j s l cnt = (r, l', s', cnt')) :
    r = 0 ∧ ∀ i, b * g.b.toNat ≤ i → i < (b + j) * g.b.toNat → l'[i]? = some 255 := by
  induction j generalizing s l cnt with
  | zero =>
    unfold wipeL at h
    cases h
    exact ⟨rfl, fun i h1 h2 => by rw [Nat.add_zero] at h2; omega⟩
  | succ j ih =>
    unfold wipeL at h
    have hin : ((b + j : Nat) : Int) < g.a := by rw [hA]; omega
    rw [erase_in b j hin] at h
    have hle := sec_le (sz := g.b.toNat) (b := b) (j := j) hL (by omega)
    have h0 : s.left ≠ 0 := by omega
    rw [if_pos (PS.did_on hoff h0)] at h
    simp only [ne_eq, not_true_eq_false, if_false] at h
    have hn := PS.next_run hoff h0 (by omega)
    have hl := orL_length l _ _ 255 hle
    have hoff2 : s.next.off = false := by rw [hn]; exact hoff
    have hleft2 : s.next.left = -1 := by rw [hn]; show (if s.left < 0 then s.left else s.left - (1 : Nat)) = _; rw [if_pos (by omega)]; exact hc
    obtain ⟨h1, h2⟩ := ih (by omega) s.next _ _ (by rw [hl]; exact hL) hoff2 hleft2 h
    refine ⟨h1, fun i hi1 hi2 => ?_⟩
    by_cases e : i < (b + j) * g.b.toNat
    · exact h2 i hi1 e
    · have e0 : (b + (j + 1)) * g.b.toNat = (b + j) * g.b.toNat + g.b.toNat := by rw [← Nat.add_assoc, Nat.succ_mul]
      rw [(wipe_same hA b j (by omega) s.next _ _ (by rw [hl]; exact hL) h).2 i (Or.inr (by omega)), orL_get l _ _ 255 hle i (by omega), if_pos ⟨by omega, by omega⟩, or_255]
end

theorem halfL_ext {g : Geo} {l l' : List UInt8} {x : Int} (h : ∀ i, x.toNat * halfN g ≤ i → i < x.toNat * halfN g + halfN g → l'[i]? = l[i]?) : halfL g l' x = halfL g l x := by
  unfold halfL
  split
  · apply List.ext_getElem?
    intro i
    by_cases hi : i < halfN g
    · rw [List.getElem?_take_of_lt hi, List.getElem?_take_of_lt hi, List.getElem?_drop, List.getElem?_drop]
      exact h _ (by omega) (by omega)
    · rw [List.getElem?_eq_none (by rw [List.length_take]; omega), List.getElem?_eq_none (by rw [List.length_take]; omega)]
  · rfl
theorem halfL_ff {g : Geo} {l : List UInt8} {x : Int} (hx : isHalf x) (h : ∀ i, x.toNat * halfN g ≤ i → i < x.toNat * halfN g + halfN g → l[i]? = some 255) : halfL g l x = ffs (halfN g) := by
  unfold halfL
  rw [if_pos hx]
  apply List.ext_getElem?
  intro i
  by_cases hi : i < halfN g
  · rw [List.getElem?_take_of_lt hi, List.getElem?_drop, ffs_get _ _ hi]
    exact h _ (by omega) (by omega)
  · rw [List.getElem?_eq_none (by rw [List.length_take]; omega), List.getElem?_eq_none (by rw [ffs_length]; omega)]
end Go.Proofs.Ytcdgpioljilgeaa
