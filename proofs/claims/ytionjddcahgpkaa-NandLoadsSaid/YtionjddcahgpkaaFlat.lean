/- Pages laid one behind the other in one row of bytes, in plain words. Nothing here speaks of the program. -/
import Derived.Test.YtionjddcahgpkaaNandP
import Derived.Test.YtionjddcahgpkaaSplice
set_option linter.unusedVariables false
set_option maxRecDepth 100000
namespace Go.Proofs.Ytionjddcahgpkaa

theorem two_level {Z q i q' i' : Nat} (hi : i < Z) (hi' : i' < Z) (h : q * Z + i = q' * Z + i') : q = q' ∧ i = i' := by
  have hz : 0 < Z := by omega
  have e1 : (q * Z + i) / Z = q := by rw [Nat.add_comm, Nat.add_mul_div_right _ _ hz, Nat.div_eq_of_lt hi, Nat.zero_add]
  have e2 : (q' * Z + i') / Z = q' := by rw [Nat.add_comm, Nat.add_mul_div_right _ _ hz, Nat.div_eq_of_lt hi', Nat.zero_add]
  have e : q = q' := by rw [← e1, h, e2]
  subst e
  exact ⟨rfl, by omega⟩
theorem level_lt {C D b p : Nat} (hb : b < C) (hp : p < D) : b * D + p < C * D := by
  have : (b + 1) * D ≤ C * D := Nat.mul_le_mul_right _ hb
  rw [Nat.add_mul, Nat.one_mul] at this
  omega
theorem level_le {C D b p : Nat} (hb : b < C) (hp : p ≤ D) : b * D + p ≤ C * D := by
  have : (b + 1) * D ≤ C * D := Nat.mul_le_mul_right _ hb
  rw [Nat.add_mul, Nat.one_mul] at this
  omega

/-- Row l has the pages pg: C blocks of D pages of E bytes and 16 spare ones. -/
structure Flat (C D E : Nat) (l : List UInt8) (pg : Int → Int → List UInt8 × List UInt8) : Prop where
  len : l.length = C * D * (E + 16)
  sz : ∀ b p : Nat, b < C → p < D → (pg b p).1.length = E ∧ (pg b p).2.length = 16
  byt : ∀ b p : Nat, b < C → p < D → ∀ i, i < E + 16 → l[(b * D + p) * (E + 16) + i]? = ((pg b p).1 ++ (pg b p).2)[i]?

section
variable {C D E : Nat} {l : List UInt8} {pg : Int → Int → List UInt8 × List UInt8}
theorem Flat.room (h : Flat C D E l pg) {b p : Nat} (hb : b < C) (hp : p < D) : (b * D + p) * (E + 16) + (E + 16) ≤ l.length := by
  rw [h.len, ← Nat.succ_mul]
  exact Nat.mul_le_mul_right _ (level_lt hb hp)
theorem Flat.one (h : Flat C D E l pg) {b p : Nat} (hb : b < C) (hp : p < D) : (l.take ((b * D + p) * (E + 16) + E)).drop ((b * D + p) * (E + 16)) = (pg b p).1 := by
  have hr := h.room hb hp
  have hs := h.sz b p hb hp
  apply List.ext_getElem?
  intro i
  rw [List.getElem?_drop]
  by_cases hi : i < E
  · rw [List.getElem?_take_of_lt (by omega), h.byt b p hb hp i (by omega), List.getElem?_append_left (by omega)]
  · rw [List.getElem?_eq_none (by simp; omega), List.getElem?_eq_none (by omega)]
theorem Flat.two (h : Flat C D E l pg) {b p : Nat} (hb : b < C) (hp : p < D) : (l.take ((b * D + p) * (E + 16) + E + 16)).drop ((b * D + p) * (E + 16) + E) = (pg b p).2 := by
  have hr := h.room hb hp
  have hs := h.sz b p hb hp
  apply List.ext_getElem?
  intro i
  rw [List.getElem?_drop]
  by_cases hi : i < 16
  · rw [List.getElem?_take_of_lt (by omega), Nat.add_assoc, h.byt b p hb hp (E + i) (by omega), List.getElem?_append_right (by omega)]
    congr 1; omega
  · rw [List.getElem?_eq_none (by simp; omega), List.getElem?_eq_none (by omega)]
theorem Flat.new (g : Geo) (hE : g.e = (E : Int)) : Flat C D E (ffs (C * D * (E + 16))) (nNew g).pg := by
  have e1 : ∀ b p : Int, (nNew g).pg b p = (ffs E, ffs 16) := fun b p => by
    show blankP g = _
    unfold blankP
    rw [hE, Int.toNat_natCast]
  refine ⟨ffs_length _, fun b p _ _ => by rw [e1]; exact ⟨ffs_length _, ffs_length _⟩, fun b p hb hp i hi => ?_⟩
  rw [e1]
  have h1 : (b * D + p) * (E + 16) + i < C * D * (E + 16) := level_lt (level_lt hb hp) hi
  have h2 : ffs E ++ ffs 16 = ffs (E + 16) := List.replicate_append_replicate ..
  show (ffs (C * D * (E + 16)))[(b * D + p) * (E + 16) + i]? = (ffs E ++ ffs 16)[i]?
  rw [h2]
  simp only [ffs, List.getElem?_replicate]
  rw [if_pos h1, if_pos hi]
theorem Flat.put (h : Flat C D E l pg) {b p : Nat} (hb : b < C) (hp : p < D) {d s : List UInt8} (hd : d.length = E) (hs : s.length = 16) :
    Flat C D E (splice l ((b * D + p) * (E + 16)) (d ++ s)) (upP pg b p (d, s)) := by
  have hr := h.room hb hp
  have hl : (d ++ s).length = E + 16 := by rw [List.length_append, hd, hs]
  refine ⟨by rw [splice_length _ _ _ (by omega)]; exact h.len, fun x y hx hy => ?_, fun x y hx hy i hi => ?_⟩
  · by_cases e : x = b ∧ y = p
    · obtain ⟨rfl, rfl⟩ := e
      rw [upP_same]
      exact ⟨hd, hs⟩
    · rw [upP_other _ _ (by omega)]
      exact h.sz x y hx hy
  · rw [splice_get _ _ _ (by omega), hl]
    by_cases e : x = b ∧ y = p
    · obtain ⟨rfl, rfl⟩ := e
      rw [upP_same, if_neg (by omega), if_pos (by omega)]
      congr 1; omega
    · rw [upP_other _ _ (by omega)]
      have hout : ¬ ((b * D + p) * (E + 16) ≤ (x * D + y) * (E + 16) + i ∧ (x * D + y) * (E + 16) + i < (b * D + p) * (E + 16) + (E + 16)) := fun ⟨h1, h2⟩ => by
        obtain ⟨k, hk⟩ : ∃ k, (x * D + y) * (E + 16) + i = (b * D + p) * (E + 16) + k := ⟨(x * D + y) * (E + 16) + i - (b * D + p) * (E + 16), by omega⟩
        have h3 := two_level hi (by omega) hk
        have h4 := two_level hy hp h3.1
        exact e ⟨h4.1, h4.2⟩
      rw [← h.byt x y hx hy i hi]
      split
      · rfl
      · rw [if_neg (by omega)]
/-- All pages of one block are turned. -/
theorem Flat.block (h : Flat C D E l pg) {b : Nat} (hb : b < C) {c : List UInt8} (hc : c.length = D * (E + 16)) {f : List UInt8 × List UInt8 → List UInt8 × List UInt8}
    (hf : ∀ v, v.1.length = E → v.2.length = 16 → (f v).1.length = E ∧ (f v).2.length = 16)
    (hx : ∀ p, p < D → ∀ i, i < E + 16 → c[p * (E + 16) + i]? = ((f (pg b p)).1 ++ (f (pg b p)).2)[i]?) :
    Flat C D E (splice l (b * D * (E + 16)) c) (fun x y => if x = (b : Int) then f (pg x y) else pg x y) := by
  have hr : b * D * (E + 16) + D * (E + 16) ≤ l.length := by
    rw [h.len, ← Nat.add_mul]
    exact Nat.mul_le_mul_right _ (level_le hb (Nat.le_refl _))
  refine ⟨by rw [splice_length _ _ _ (by omega)]; exact h.len, fun x y hx' hy => ?_, fun x y hx' hy i hi => ?_⟩
  · show ((if (x : Int) = (b : Int) then f (pg x y) else pg x y) : List UInt8 × List UInt8).1.length = E ∧ ((if (x : Int) = (b : Int) then f (pg x y) else pg x y) : List UInt8 × List UInt8).2.length = 16
    have := h.sz x y hx' hy
    split
    · exact hf _ this.1 this.2
    · exact this
  · show (splice l (b * D * (E + 16)) c)[(x * D + y) * (E + 16) + i]? = (((if (x : Int) = (b : Int) then f (pg x y) else pg x y) : List UInt8 × List UInt8).1 ++ ((if (x : Int) = (b : Int) then f (pg x y) else pg x y) : List UInt8 × List UInt8).2)[i]?
    have e1 : (x * D + y) * (E + 16) + i = x * (D * (E + 16)) + (y * (E + 16) + i) := by rw [Nat.add_mul, Nat.mul_assoc]; omega
    have e2 : b * D * (E + 16) = b * (D * (E + 16)) := Nat.mul_assoc _ _ _
    have hyi : y * (E + 16) + i < D * (E + 16) := level_lt hy hi
    rw [splice_get _ _ _ (by omega), hc]
    by_cases e : x = b
    · subst e
      rw [if_pos rfl, if_neg (by omega), if_pos (by omega), ← hx y hy i hi]
      congr 1; omega
    · rw [if_neg (by omega : ¬ (x : Int) = (b : Int)), ← h.byt x y hx' hy i hi]
      have hout : ¬ (b * (D * (E + 16)) ≤ x * (D * (E + 16)) + (y * (E + 16) + i) ∧ x * (D * (E + 16)) + (y * (E + 16) + i) < b * (D * (E + 16)) + D * (E + 16)) := fun ⟨h1, h2⟩ => by
        obtain ⟨k, hk⟩ : ∃ k, x * (D * (E + 16)) + (y * (E + 16) + i) = b * (D * (E + 16)) + k := ⟨x * (D * (E + 16)) + (y * (E + 16) + i) - b * (D * (E + 16)), by omega⟩
        exact e (two_level hyi (by omega) hk).1
      split
      · rfl
      · rw [if_neg (by omega)]
theorem Flat.wipe (h : Flat C D E l pg) (g : Geo) (hE : g.e = (E : Int)) {b : Nat} (hb : b < C) :
    Flat C D E (splice l (b * D * (E + 16)) (ffs (D * (E + 16)))) (fun x y => if x = (b : Int) then blankP g else pg x y) := by
  have e1 : blankP g = (ffs E, ffs 16) := by
    unfold blankP
    rw [hE, Int.toNat_natCast]
  refine h.block hb (ffs_length _) (f := fun _ => blankP g) (fun v _ _ => by rw [e1]; exact ⟨ffs_length _, ffs_length _⟩) (fun p hp i hi => ?_)
  show (ffs (D * (E + 16)))[p * (E + 16) + i]? = ((blankP g).1 ++ (blankP g).2)[i]?
  have h2 : ffs E ++ ffs 16 = ffs (E + 16) := List.replicate_append_replicate ..
  rw [e1]
  show (ffs (D * (E + 16)))[p * (E + 16) + i]? = (ffs E ++ ffs 16)[i]?
  rw [h2]
  simp only [ffs, List.getElem?_replicate]
  rw [if_pos (level_lt hp hi), if_pos hi]
theorem Flat.ors (h : Flat C D E l pg) {b : Nat} (hb : b < C) (m : UInt8) :
    Flat C D E (splice l (b * D * (E + 16)) (((l.drop (b * D * (E + 16))).take (D * (E + 16))).map (· ||| m))) (fun x y => if x = (b : Int) then orP m (pg x y) else pg x y) := by
  have hr : b * D * (E + 16) + D * (E + 16) ≤ l.length := by
    rw [h.len, ← Nat.add_mul]
    exact Nat.mul_le_mul_right _ (level_le hb (Nat.le_refl _))
  refine h.block hb (by simp; omega) (f := orP m) (fun v h1 h2 => by unfold orP; simp only [List.length_map]; exact ⟨h1, h2⟩) (fun p hp i hi => ?_)
  have hpi : p * (E + 16) + i < D * (E + 16) := level_lt hp hi
  have e1 : (orP m (pg b p)).1 ++ (orP m (pg b p)).2 = ((pg b p).1 ++ (pg b p).2).map (· ||| m) := by unfold orP; rw [List.map_append]
  rw [e1, List.getElem?_map, List.getElem?_map, List.getElem?_take_of_lt hpi, List.getElem?_drop]
  have e2 : b * D * (E + 16) + (p * (E + 16) + i) = (b * D + p) * (E + 16) + i := by rw [Nat.add_mul]; omega
  rw [e2, h.byt b p hb hp i hi]
end
theorem splice_nil {α : Type} (x : List α) (o : Nat) : splice x o [] = x := by simp [splice]
theorem splice_step {α : Type} (x c : List α) (o j : Nat) (h : o + c.length ≤ x.length) (hj : j < c.length) : (splice x o (c.take j)).set (o + j) c[j] = splice x o (c.take (j + 1)) := by
  have e1 : (c.take j).length = j := by simp; omega
  have e2 : (c.take (j + 1)).length = j + 1 := by simp; omega
  apply List.ext_getElem?
  intro i
  rw [List.getElem?_set, splice_get _ _ _ (by omega), splice_get _ _ _ (by omega), e1, e2, splice_length _ _ _ (by omega)]
  by_cases a : i < o
  · rw [if_neg (by omega), if_pos a, if_pos a]
  · rw [if_neg a, if_neg a]
    by_cases b : i < o + j
    · rw [if_neg (by omega), if_pos b, if_pos (by omega), List.getElem?_take_of_lt (by omega), List.getElem?_take_of_lt (by omega)]
    · rw [if_neg b]
      by_cases d : o + j = i
      · rw [if_pos d, if_pos (by omega), if_pos (by omega), List.getElem?_take_of_lt (by omega)]
        obtain rfl : i - o = j := by omega
        rw [List.getElem?_eq_getElem hj]
      · rw [if_neg d, if_neg (by omega)]
theorem splice_all {α : Type} (x c : List α) (o : Nat) : splice x o (c.take c.length) = splice x o c := by rw [List.take_length]
end Go.Proofs.Ytionjddcahgpkaa
