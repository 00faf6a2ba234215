/- Plain laws of programming and erasing. Nothing here speaks of the program. -/
import Derived.Test.YtcdgpioljilgeaaNor4
import Derived.Test.YtcdgpioljilgeaaSplice
set_option linter.unusedVariables false
set_option maxRecDepth 100000
namespace Go.Proofs.Ytcdgpioljilgeaa

theorem and_not_zero (x y : UInt8) : (x &&& ~~~ y) = 0 ↔ x &&& y = x := by
  have h : ∀ a b : BitVec 8, (a &&& ~~~ b) = 0#8 ↔ a &&& b = a := by
    intro a b
    constructor
    · intro h
      ext i hi
      have h1 := congrArg (fun v : BitVec 8 => v[i]) h
      simp at h1 ⊢
      exact h1
    · intro h
      ext i hi
      have h1 := congrArg (fun v : BitVec 8 => v[i]) h
      simp at h1 ⊢
      exact h1
  have e1 : (x &&& ~~~ y) = 0 ↔ (x.toBitVec &&& ~~~ y.toBitVec) = 0#8 := by
    rw [← UInt8.toBitVec_inj]
    simp
  have e2 : x &&& y = x ↔ x.toBitVec &&& y.toBitVec = x.toBitVec := by
    rw [← UInt8.toBitVec_inj]
    simp
  rw [e1, e2, h]

theorem bit_sub (x y : UInt8) : ((x &&& ~~~ y) != 0) = !((x &&& y) == x) := by
  rw [Bool.eq_iff_iff]
  simp [and_not_zero]

theorem ffs_getD (n i : Nat) (h : i < n) : (ffs n).getD i 0 = 255 := by
  simp [ffs, List.getD_eq_getElem?_getD, h]
theorem ffs_get (n i : Nat) (h : i < n) : (ffs n)[i]? = some 255 := by simp [ffs, h]

theorem bitsBad_all (l : List UInt8) (o : Nat) (bs : List UInt8) (h : ∀ i (hi : i < bs.length), (bs[i] &&& ~~~ (l.getD (o + i) 0)) = 0) : bitsBad l o bs = false := by
  induction bs generalizing o with
  | nil => rfl
  | cons x t ih =>
    unfold bitsBad
    have h0 : (x &&& ~~~ (l.getD o 0)) = 0 := h 0 (by simp)
    rw [h0, ih (o + 1) (fun i hi => by have := h (i + 1) (by simpa using hi); simpa [Nat.add_assoc, Nat.add_comm 1 i] using this)]
    rfl
theorem bitsBad_ffs (n o : Nat) (bs : List UInt8) (h : o + bs.length ≤ n) : bitsBad (ffs n) o bs = false := by
  refine bitsBad_all _ _ _ fun i hi => ?_
  rw [ffs_getD _ _ (by omega)]
  exact UInt8.and_zero
theorem bitsBad_own (l : List UInt8) (o : Nat) (bs : List UInt8) (h : ∀ i, i < bs.length → l[o + i]? = bs[i]?) : bitsBad l o bs = false := by
  refine bitsBad_all _ _ _ fun i hi => ?_
  rw [List.getD_eq_getElem?_getD, h i hi, List.getElem?_eq_getElem hi, Option.getD_some]
  rw [and_not_zero]
  exact UInt8.and_self

namespace PS
/-- So many steps that are done. -/
def run (s : PS) (n : Nat) : PS := { s with left := if s.left < 0 then s.left else s.left - n, done := s.done + n }
/-- A step that is torn. -/
def stop (s : PS) : PS := { s with off := true }
theorem run_zero (s : PS) : s.run 0 = s := by
  unfold run
  rcases s with ⟨left, mask, off, fails, done⟩
  simp
theorem next_run {s : PS} (h : s.off = false) (h0 : s.left ≠ 0) (h1 : -1 ≤ s.left) : s.next = s.run 1 := by
  unfold next run
  rw [if_neg (by rw [h]; decide), if_neg h0]
  by_cases hl : s.left < 0
  · rw [if_pos hl, if_neg (by omega)]
  · rw [if_neg hl, if_pos (by omega)]
    rfl
theorem next_stop {s : PS} (h : s.off = false) (h0 : s.left = 0) : s.next = s.stop := by
  unfold next stop
  rw [if_neg (by rw [h]; decide), if_pos h0]
theorem next_off {s : PS} (h : s.off = true) : s.next = s := by
  unfold next
  rw [if_pos h]
theorem run_run (s : PS) (a b : Nat) (h : s.left < 0 ∨ (a : Int) ≤ s.left) : (s.run a).run b = s.run (a + b) := by
  rcases s with ⟨left, mask, off, fails, done⟩
  unfold run
  simp only at h ⊢
  by_cases hl : left < 0
  · simp only [if_pos hl, Nat.add_assoc]
  · rw [if_neg hl]
    have : ¬ left - (a : Int) < 0 := by omega
    simp only [if_neg this, if_neg hl, Nat.add_assoc]
    congr 1
    omega
theorem did_on {s : PS} (h : s.off = false) (h0 : s.left ≠ 0) : s.did = true := by simp [did, h, h0]
theorem did_stop {s : PS} (h0 : s.left = 0) : s.did = false := by simp [did, h0]
theorem torn_stop {s : PS} (h : s.off = false) (h0 : s.left = 0) : s.torn = true := by simp [torn, h, h0]
theorem did_off {s : PS} (h : s.off = true) : s.did = false := by simp [did, h]
theorem torn_off {s : PS} (h : s.off = true) : s.torn = false := by simp [torn, h]
end PS

theorem splice_cons {l : List UInt8} {o : Nat} {x : UInt8} {t : List UInt8} (h : o + (t.length + 1) ≤ l.length) : splice (l.set o x) (o + 1) t = splice l o (x :: t) := by
  apply List.ext_getElem?
  intro i
  rw [splice_get _ _ _ (by simp; omega), splice_get _ _ _ (by simp; omega)]
  simp only [List.length_cons, List.getElem?_set]
  by_cases h1 : i < o
  · rw [if_pos (by omega), if_neg (by omega), if_pos h1]
  · by_cases h2 : i = o
    · subst h2
      rw [if_pos (by omega), if_pos rfl, if_pos (by omega), if_neg (by omega), if_pos (by omega)]
      simp
    · by_cases h3 : i < o + (t.length + 1)
      · rw [if_neg (by omega), if_pos (by omega), if_neg (by omega), if_pos (by omega)]
        rw [show i - o = (i - (o + 1)) + 1 by omega]
        rfl
      · rw [if_neg (by omega), if_neg (by omega), if_neg (by omega), if_neg (by omega), if_neg (by omega)]

theorem splice_nil {α : Type} (l : List α) (o : Nat) : splice l o [] = l := by simp [splice]

/-- With power for all of it. -/
theorem progL_run (s : PS) (l : List UInt8) (o : Nat) (bs : List UInt8) (ho : o + bs.length ≤ l.length) (hoff : s.off = false) (h1 : -1 ≤ s.left) (h : s.left < 0 ∨ (bs.length : Int) ≤ s.left) :
    progL s l o bs = (splice l o bs, s.run bs.length, true) := by
  induction bs generalizing s l o with
  | nil => unfold progL; rw [splice_nil]; rw [show ([] : List UInt8).length = 0 from rfl, PS.run_zero]
  | cons x t ih =>
    simp only [List.length_cons] at ho h
    unfold progL
    have h0 : s.left ≠ 0 := by omega
    rw [if_pos (PS.did_on hoff h0), PS.next_run hoff h0 h1]
    rw [ih (s.run 1) (l.set o x) (o + 1) (by simp; omega) (by unfold PS.run; exact hoff) (by unfold PS.run; simp only; split <;> omega) (by unfold PS.run; simp only; split <;> omega)]
    rw [splice_cons (by omega), PS.run_run _ _ _ (by omega), List.length_cons, Nat.add_comm 1]

/-- Power goes at a byte. -/
theorem progL_cut (s : PS) (l : List UInt8) (o : Nat) (bs : List UInt8) (k : Nat) (ho : o + bs.length ≤ l.length) (hoff : s.off = false) (h : s.left = (k : Int)) (hk : k < bs.length) :
    progL s l o bs = ((splice l o (bs.take k)).set (o + k) (bs[k] ||| (l.getD (o + k) 0 &&& s.mask)), (s.run k).stop, false) := by
  induction bs generalizing s l o k with
  | nil => simp at hk
  | cons x t ih =>
    simp only [List.length_cons] at ho hk
    unfold progL
    cases k with
    | zero =>
      have h0 : s.left = 0 := by omega
      rw [if_neg (by rw [PS.did_stop h0]; decide), if_pos (PS.torn_stop hoff h0), PS.next_stop hoff h0, PS.run_zero]
      simp [splice_nil]
    | succ k =>
      have h0 : s.left ≠ 0 := by omega
      rw [if_pos (PS.did_on hoff h0), PS.next_run hoff h0 (by omega)]
      have hl : ¬ s.left < 0 := by omega
      rw [ih (s.run 1) (l.set o x) (o + 1) k (by simp; omega) (by unfold PS.run; exact hoff) (by unfold PS.run; simp only; rw [if_neg hl]; omega) (by omega)]
      rw [PS.run_run _ _ _ (by omega), Nat.add_comm 1 k, List.take_succ_cons, splice_cons (by simp; omega)]
      have e1 : o + 1 + k = o + (k + 1) := by omega
      have e2 : (l.set o x).getD (o + 1 + k) 0 = l.getD (o + (k + 1)) 0 := by
        rw [e1, List.getD_eq_getElem?_getD, List.getD_eq_getElem?_getD, List.getElem?_set, if_neg (by omega)]
      rw [e2, e1]
      rfl

/-- Without power. -/
theorem progL_dark (s : PS) (l : List UInt8) (o : Nat) (bs : List UInt8) (hoff : s.off = true) (h0 : 0 < bs.length) : progL s l o bs = (l, s, false) := by
  cases bs with
  | nil => simp at h0
  | cons x t =>
    unfold progL
    rw [if_neg (by rw [PS.did_off hoff]; decide), if_neg (by rw [PS.torn_off hoff]; decide), PS.next_off hoff]

theorem or_255 (x : UInt8) : x ||| 255 = 255 := by
  rw [← UInt8.toBitVec_inj]
  show x.toBitVec ||| BitVec.allOnes 8 = BitVec.allOnes 8
  exact BitVec.or_allOnes
theorem or_and_self (x m : UInt8) : x ||| (x &&& m) = x := by
  rw [← UInt8.toBitVec_inj]
  simp only [UInt8.toBitVec_or, UInt8.toBitVec_and]
  ext i hi
  simp
  cases x.toBitVec[i] <;> simp

theorem set_own (l : List UInt8) (o : Nat) (x : UInt8) (h : l[o]? = some x) : l.set o x = l := by
  apply List.ext_getElem?
  intro i
  rw [List.getElem?_set]
  split
  · rename_i h1
    subst h1
    split
    · exact h.symm
    · rename_i h2
      rw [List.getElem?_eq_none (by omega)]
  · rfl

/-- What stands there is programmed again: nothing is turned. -/
theorem progL_same (s : PS) (l : List UInt8) (o : Nat) (bs : List UInt8) (h : ∀ i, i < bs.length → l[o + i]? = bs[i]?) : (progL s l o bs).1 = l := by
  induction bs generalizing s o with
  | nil => rfl
  | cons x t ih =>
    have h0 := h 0 (by simp)
    simp at h0
    unfold progL
    split
    · rw [set_own l o x h0]
      exact ih _ _ (fun i hi => by have := h (i + 1) (by simpa using hi); simpa [Nat.add_assoc, Nat.add_comm 1 i] using this)
    · split
      · show l.set o _ = l
        rw [List.getD_eq_getElem?_getD, h0, Option.getD_some, or_and_self]
        exact set_own l o x h0
      · rfl

/-- What is programmed onto erased bytes, with power. -/
theorem progE_run (s : PS) (l : List UInt8) (o : Nat) (bs : List UInt8) (ho : o + bs.length ≤ l.length) (hb : bitsBad l o bs = false) (hoff : s.off = false) (h1 : -1 ≤ s.left) (h : s.left < 0 ∨ (bs.length : Int) ≤ s.left) :
    progE s l (o : Int) bs = (0, splice l o bs, s.run bs.length) := by
  unfold progE
  rw [if_pos (by unfold askE; rw [if_neg (by omega)]), Int.toNat_natCast, if_neg (by rw [hb]; decide), progL_run s l o bs ho hoff h1 h]
  rfl
theorem progE_cut (s : PS) (l : List UInt8) (o : Nat) (bs : List UInt8) (k : Nat) (ho : o + bs.length ≤ l.length) (hb : bitsBad l o bs = false) (hoff : s.off = false) (h : s.left = (k : Int)) (hk : k < bs.length) :
    progE s l (o : Int) bs = (6, (splice l o (bs.take k)).set (o + k) (bs[k] ||| (l.getD (o + k) 0 &&& s.mask)), (s.run k).stop) := by
  unfold progE
  rw [if_pos (by unfold askE; rw [if_neg (by omega)]), Int.toNat_natCast, if_neg (by rw [hb]; decide), progL_cut s l o bs k ho hoff h hk]
  rfl
theorem progE_dark (s : PS) (l : List UInt8) (o : Nat) (bs : List UInt8) (ho : o + bs.length ≤ l.length) (hb : bitsBad l o bs = false) (hoff : s.off = true) (h0 : 0 < bs.length) :
    progE s l (o : Int) bs = (6, l, s) := by
  unfold progE
  rw [if_pos (by unfold askE; rw [if_neg (by omega)]), Int.toNat_natCast, if_neg (by rw [hb]; decide), progL_dark s l o bs hoff h0]
  rfl
theorem progE_bad (s : PS) (l : List UInt8) (o : Nat) (bs : List UInt8) (ho : o + bs.length ≤ l.length) (hb : bitsBad l o bs = true) :
    progE s l (o : Int) bs = (9, l, s) := by
  unfold progE
  rw [if_pos (by unfold askE; rw [if_neg (by omega)]), Int.toNat_natCast, if_pos hb]

theorem readL_at (l : List UInt8) (o n : Nat) (h : o + n ≤ l.length) : readL l (o : Int) (n : Int) = (l.drop o).take n := by
  unfold readL
  rw [if_pos (by unfold askE; rw [if_neg (by omega)]), Int.toNat_natCast, Int.toNat_natCast]
theorem askE_at {L o n : Nat} (h : o + n ≤ L) : askE L (o : Int) (n : Int) = 0 := by
  unfold askE
  rw [if_neg (by omega)]
end Go.Proofs.Ytcdgpioljilgeaa
