/- Plain laws on tags as bytes: what is written is read; a byte that is another one is seen; two tags that are written alike are one. -/
import Derived.Test.YtdieeleaaejfhaaTagR
import Derived.Test.YtdieeleaaejfhaaNumP
import Derived.Test.YtdieeleaaejfhaaSumP
set_option linter.unusedVariables false
set_option maxRecDepth 100000
namespace Go.Proofs.Ytdieeleaaejfhaa
open Go.RowKit

theorem num_low4 (v : Nat) (h : v < 4294967296) : num (low v 4) = v := by
  rw [num_low]; exact Nat.mod_eq_of_lt h

theorem tagAll_length (a b s : Nat) : (tagAll a b s).length = 16 := by
  unfold tagAll; simp only [List.length_append, low_length]

theorem tagAll_head (a b s : Nat) : (tagAll a b s).take 12 = low a 4 ++ low b 4 ++ low s 4 := by
  unfold tagAll
  rw [List.take_append_of_le_length (by simp only [List.length_append, low_length]; omega), List.take_of_length_le (by simp only [List.length_append, low_length]; omega)]

theorem fld_mid (p m r : List UInt8) (h : m.length = 4) : fld (p ++ m ++ r) p.length = num m := by
  unfold fld
  congr 1
  rw [List.append_assoc, List.take_append, List.drop_append, List.take_of_length_le (by omega), List.drop_length, Nat.add_sub_cancel_left, Nat.sub_self, List.drop_zero, List.nil_append]
  rw [List.take_append_of_le_length (by omega), List.take_of_length_le (by omega)]

theorem tagAll_flds (a b s : Nat) (ha : a < 4294967296) (hb : b < 4294967296) (hs : s < 4294967296) :
    fld (tagAll a b s) 0 = a ∧ fld (tagAll a b s) 4 = b ∧ fld (tagAll a b s) 8 = s ∧ fld (tagAll a b s) 12 = sumN (low a 4 ++ low b 4 ++ low s 4) := by
  have e : ∀ (x y z u : List UInt8), x ++ y ++ z ++ u = [] ++ x ++ (y ++ z ++ u) ∧ x ++ y ++ z ++ u = x ++ y ++ (z ++ u) := fun x y z u => by simp
  have hS := sumN_lt (low a 4 ++ low b 4 ++ low s 4)
  refine ⟨?_, ?_, ?_, ?_⟩
  · unfold tagAll
    rw [(e _ _ _ _).1]
    have := fld_mid [] (low a 4) (low b 4 ++ low s 4 ++ low (sumN (low a 4 ++ low b 4 ++ low s 4)) 4) (low_length _ _)
    rw [num_low4 a ha] at this
    exact this
  · unfold tagAll
    rw [(e _ _ _ _).2]
    have := fld_mid (low a 4) (low b 4) (low s 4 ++ low (sumN (low a 4 ++ low b 4 ++ low s 4)) 4) (low_length _ _)
    rw [num_low4 b hb, low_length] at this
    exact this
  · unfold tagAll
    have := fld_mid (low a 4 ++ low b 4) (low s 4) (low (sumN (low a 4 ++ low b 4 ++ low s 4)) 4) (low_length _ _)
    rw [num_low4 s hs, List.length_append, low_length, low_length] at this
    exact this
  · have := fld_mid (low a 4 ++ low b 4 ++ low s 4) (low (sumN (low a 4 ++ low b 4 ++ low s 4)) 4) [] (low_length _ _)
    rw [num_low4 _ hS, List.length_append, List.length_append, low_length, low_length, low_length, List.append_nil] at this
    exact this

/-- What is written is read. -/
theorem rd_tagAll (a b s : Nat) (ha : a ≤ 2147483647) (hb : b ≤ 2147483647) (hs : s < 4294967296) : rdTag (tagAll a b s) = (a, b, s, 0) := by
  obtain ⟨h0, h1, h2, h3⟩ := tagAll_flds a b s (by omega) (by omega) hs
  unfold rdTag
  rw [tagAll_length, tagAll_head, h0, h1, h2, h3]
  rw [if_neg (by omega), if_neg (by simp), if_neg (by omega)]

theorem num_inj : ∀ (l m : List UInt8), l.length = m.length → num l = num m → l = m
  | [], [], _, _ => rfl
  | [], _ :: _, h, _ => by simp at h
  | _ :: _, [], h, _ => by simp at h
  | x :: l, y :: m, h, e => by
    rw [num_cons, num_cons] at e
    have hx := x.toNat_lt
    have hy := y.toNat_lt
    have e1 : x.toNat = y.toNat := by omega
    have e2 : num l = num m := by omega
    rw [num_inj l m (by simpa using h) e2, UInt8.toNat_inj.1 e1]

/-- A byte that is another one: it is no tag. -/
theorem rd_turned (l : List UInt8) (hl : l.length = 16) (hs : sumN (l.take 12) = fld l 12) (i : Nat) (hi : i < l.length) (y : UInt8) (hy : y ≠ 0) : (rdTag (l.set i (l[i] ^^^ y))).2.2.2 = 4 := by
  have hne : l[i] ^^^ y ≠ l[i] := fun e => hy ((xor_ne _ _).1 e)
  have key : sumN ((l.set i (l[i] ^^^ y)).take 12) ≠ fld (l.set i (l[i] ^^^ y)) 12 := by
    by_cases h12 : i < 12
    · have e1 : fld (l.set i (l[i] ^^^ y)) 12 = fld l 12 := by
        unfold fld
        rw [List.take_of_length_le (by rw [List.length_set]; omega), List.take_of_length_le (by omega), List.drop_set_of_lt (by omega)]
      have e2 : (l.set i (l[i] ^^^ y)).take 12 = (l.take 12).set i ((l.take 12)[i]'(by rw [List.length_take]; omega) ^^^ y) := by
        rw [List.take_set, List.getElem_take]
      rw [e1, ← hs, e2]
      have := seen_one (l.take 12) i (by rw [List.length_take]; omega) (by rw [List.length_take]; omega) y
      intro e
      rw [e] at this
      simp at this
      exact hy (UInt8.toNat_inj.1 (by simpa using this))
    · have e1 : (l.set i (l[i] ^^^ y)).take 12 = l.take 12 := by rw [List.take_set_of_le (by omega)]
      rw [e1, hs]
      intro e
      unfold fld at e
      rw [List.take_of_length_le (l := l.set i _) (by rw [List.length_set]; omega), List.take_of_length_le (by omega)] at e
      have e3 := num_inj _ _ (by simp) e
      have e4 : (l.drop 12)[i - 12]? = ((l.set i (l[i] ^^^ y)).drop 12)[i - 12]? := by rw [e3]
      rw [List.getElem?_drop, List.getElem?_drop, show 12 + (i - 12) = i by omega, List.getElem?_eq_getElem hi, List.getElem?_set_self (by omega)] at e4
      exact hne (Option.some.inj e4).symm
  unfold rdTag
  rw [if_neg (by rw [List.length_set]; omega), if_pos key]

theorem rd_blank : rdTag (List.replicate 16 255) = (0, 0, 0, 4) := by
  unfold rdTag
  rw [if_neg (by simp), if_pos (by decide)]

theorem low4_inj {a b : Nat} (ha : a < 4294967296) (hb : b < 4294967296) (h : low a 4 = low b 4) : a = b := by
  rw [← num_low4 a ha, ← num_low4 b hb, h]

/-- Two tags that are written alike are one. -/
theorem tagAll_inj {a b s a' b' s' : Nat} (ha : a < 4294967296) (hb : b < 4294967296) (hs : s < 4294967296) (ha' : a' < 4294967296) (hb' : b' < 4294967296) (hs' : s' < 4294967296)
    (h : tagAll a b s = tagAll a' b' s') : a = a' ∧ b = b' ∧ s = s' := by
  obtain ⟨h0, h1, h2, h3⟩ := tagAll_flds a b s ha hb hs
  obtain ⟨k0, k1, k2, k3⟩ := tagAll_flds a' b' s' ha' hb' hs'
  rw [h] at h0 h1 h2
  exact ⟨h0.symm.trans k0, h1.symm.trans k1, h2.symm.trans k2⟩

theorem rd_awake : rdTag (tagAll 3 4 393222) = (3, 4, 393222, 0) := rd_tagAll 3 4 393222 (by decide) (by decide) (by decide)

end Go.Proofs.Ytdieeleaaejfhaa
