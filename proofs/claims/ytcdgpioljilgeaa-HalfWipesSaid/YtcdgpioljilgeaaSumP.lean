/- Plain laws on sums over bytes: their closed form, and what a byte that is another one, two that are exchanged, and one more do to them. -/
import Derived.Test.YtcdgpioljilgeaaSum
namespace Go.Proofs.Ytcdgpioljilgeaa

def sS : List UInt8 → Nat
  | [] => 0
  | c :: l => c.toNat + sS l
def sW : List UInt8 → Nat
  | [] => 0
  | c :: l => (l.length + 1) * c.toNat + sW l

theorem halves_closed (l : List UInt8) : ∀ p q, p < 65521 → q < 65521 → halves l p q = ((p + sS l) % 65521, (q + l.length * p + sW l) % 65521) := by
  induction l with
  | nil => intro p q hp hq; simp [halves, sS, sW, Nat.mod_eq_of_lt hp, Nat.mod_eq_of_lt hq]
  | cons c l ih =>
    intro p q hp hq
    rw [halves, ih _ _ (Nat.mod_lt _ (by decide)) (Nat.mod_lt _ (by decide))]
    simp only [sS, sW, List.length_cons]
    congr 1
    · rw [Nat.mod_add_mod]; congr 1; omega
    · rw [Nat.add_assoc, Nat.mod_add_mod, ← Nat.add_assoc]
      have h1 : l.length * ((p + c.toNat) % 65521) % 65521 = l.length * (p + c.toNat) % 65521 := Nat.mul_mod_mod _ _ _
      have h2 : q + (l.length + 1) * p + ((l.length + 1) * c.toNat + sW l) = q + (p + c.toNat) + l.length * (p + c.toNat) + sW l := by
        rw [Nat.add_mul, Nat.add_mul, Nat.mul_add]; omega
      rw [h2]
      generalize l.length * ((p + c.toNat) % 65521) = u at *
      generalize l.length * (p + c.toNat) = v at *
      omega

theorem sumN_eq (l m : List UInt8) : sumN l = sumN m ↔ halves l 1 0 = halves m 1 0 := by
  have h1 := halves_lt l 1 0 (by decide) (by decide)
  have h2 := halves_lt m 1 0 (by decide) (by decide)
  unfold sumN
  generalize halves l 1 0 = a at *
  generalize halves m 1 0 = b at *
  obtain ⟨a1, a2⟩ := a
  obtain ⟨b1, b2⟩ := b
  simp only [Prod.mk.injEq] at *
  omega

theorem sumN_closed (l m : List UInt8) : sumN l = sumN m ↔ (1 + sS l) % 65521 = (1 + sS m) % 65521 ∧ (l.length + sW l) % 65521 = (m.length + sW m) % 65521 := by
  rw [sumN_eq, halves_closed _ _ _ (by decide) (by decide), halves_closed _ _ _ (by decide) (by decide)]
  simp

theorem sS_le (l : List UInt8) : sS l ≤ 255 * l.length := by
  induction l with
  | nil => simp [sS]
  | cons c l ih => have := c.toNat_lt; simp only [sS, List.length_cons]; omega

theorem sS_set (l : List UInt8) (i : Nat) (h : i < l.length) (v : UInt8) : sS (l.set i v) + l[i].toNat = sS l + v.toNat := by
  induction l generalizing i with
  | nil => simp at h
  | cons c l ih =>
    cases i with
    | zero => simp [sS]; omega
    | succ i => have := ih i (by simpa using h); simp only [List.set_cons_succ, sS, List.getElem_cons_succ]; omega

theorem sW_set (l : List UInt8) (i : Nat) (h : i < l.length) (v : UInt8) : sW (l.set i v) + (l.length - i) * l[i].toNat = sW l + (l.length - i) * v.toNat := by
  induction l generalizing i with
  | nil => simp at h
  | cons c l ih =>
    cases i with
    | zero => simp [sW]; omega
    | succ i =>
      have := ih i (by simpa using h)
      simp only [List.set_cons_succ, sW, List.getElem_cons_succ, List.length_set, List.length_cons, Nat.reduceSubDiff]
      omega

theorem sS_append (l m : List UInt8) : sS (l ++ m) = sS l + sS m := by
  induction l with
  | nil => simp [sS]
  | cons c l ih => simp only [List.cons_append, sS, ih]; omega

theorem sW_append (l m : List UInt8) : sW (l ++ m) = sW l + m.length * sS l + sW m := by
  induction l with
  | nil => simp [sW, sS]
  | cons c l ih =>
    simp only [List.cons_append, sW, sS, ih, List.length_append]
    rw [show l.length + m.length + 1 = (l.length + 1) + m.length from by omega, Nat.add_mul, Nat.mul_add]
    omega

theorem xor_ne (a b : UInt8) : a ^^^ b = a ↔ b = 0 := by
  constructor
  · intro h
    have := congrArg (fun z => a ^^^ z) h
    simpa [← UInt8.xor_assoc] using this
  · rintro rfl; simp

/-- A byte that is another one is seen. -/
theorem seen_one (l : List UInt8) (i : Nat) (h : i < l.length) (hn : l.length ≤ 200) (y : UInt8) :
    ((sumN (l.set i (l[i] ^^^ y)) : Int) == (sumN l : Int)) = (((y.toNat : Nat) : Int) == 0) := by
  rw [Bool.eq_iff_iff, beq_iff_eq, beq_iff_eq]
  have hy : ((y.toNat : Nat) : Int) = 0 ↔ y = 0 := by
    rw [← UInt8.toNat_inj]; simp
  rw [hy]
  constructor
  · intro he
    have he : sumN (l.set i (l[i] ^^^ y)) = sumN l := by omega
    obtain ⟨h1, _⟩ := (sumN_closed _ _).1 he
    have h2 := sS_set l i h (l[i] ^^^ y)
    have h3 := sS_le l
    have h4 := sS_le (l.set i (l[i] ^^^ y))
    rw [List.length_set] at h4
    rw [← xor_ne l[i] y, ← UInt8.toNat_inj]
    omega
  · rintro rfl
    simp

/-- Two bytes that are exchanged are seen. -/
theorem seen_two (l : List UInt8) (i k : Nat) (h : i < l.length) (hk : k < l.length) (hn : l.length ≤ 200) :
    ((sumN ((l.set i l[k]).set k l[i]) : Int) == (sumN l : Int)) = ((l[i].toNat : Int) == (l[k].toNat : Int)) := by
  by_cases hik : i = k
  · subst hik; simp
  have e1 := sS_set l i h l[k]
  have e2 := sS_set (l.set i l[k]) k (by simpa using hk) l[i]
  have f1 := sW_set l i h l[k]
  have f2 := sW_set (l.set i l[k]) k (by simpa using hk) l[i]
  have hg : (l.set i l[k])[k]'(by simpa using hk) = l[k] := by rw [List.getElem_set_ne hik]
  rw [hg] at e2 f2
  simp only [List.length_set] at f2
  have c1 := sumN_closed ((l.set i l[k]).set k l[i]) l
  simp only [List.length_set] at c1
  rw [Bool.eq_iff_iff, beq_iff_eq, beq_iff_eq]
  have hc : ((sumN ((l.set i l[k]).set k l[i]) : Int) = (sumN l : Int)) ↔ sumN ((l.set i l[k]).set k l[i]) = sumN l := by omega
  rw [hc, c1]
  have b1 := l[i].toNat_lt
  have b2 := l[k].toNat_lt
  clear c1 hc hg
  generalize l[i].toNat = x at *
  generalize l[k].toNat = y at *
  generalize sS ((l.set i l[k]).set k l[i]) = s2 at *
  generalize sW ((l.set i l[k]).set k l[i]) = w2 at *
  generalize sS (l.set i l[k]) = s1 at *
  generalize sW (l.set i l[k]) = w1 at *
  generalize sS l = s0 at *
  generalize sW l = w0 at *
  generalize l.length = n at *
  have hs : s2 = s0 := by omega
  -- w2 = w0 + (n - i) (y - x) + (n - k) (x - y)
  constructor
  · rintro ⟨_, hw⟩
    rcases Nat.lt_or_ge i k with hlt | hge
    · obtain ⟨d, rfl⟩ : ∃ d, k = i + d := ⟨k - i, by omega⟩
      obtain ⟨m, rfl⟩ : ∃ m, n = i + d + m := ⟨n - i - d, by omega⟩
      have g1 : i + d + m - i = d + m := by omega
      have g2 : i + d + m - (i + d) = m := by omega
      rw [g1, Nat.add_mul, Nat.add_mul] at f1
      rw [g2] at f2
      have hd : w2 + d * x = w0 + d * y := by omega
      have d1 : d * x ≤ 199 * 255 := Nat.mul_le_mul (by omega) (by omega)
      have d2 : d * y ≤ 199 * 255 := Nat.mul_le_mul (by omega) (by omega)
      have : d * x = d * y := by omega
      have := Nat.eq_of_mul_eq_mul_left (by omega) this
      omega
    · obtain ⟨d, rfl⟩ : ∃ d, i = k + d := ⟨i - k, by omega⟩
      obtain ⟨m, rfl⟩ : ∃ m, n = k + d + m := ⟨n - k - d, by omega⟩
      have g1 : k + d + m - k = d + m := by omega
      have g2 : k + d + m - (k + d) = m := by omega
      rw [g1, Nat.add_mul, Nat.add_mul] at f2
      rw [g2] at f1
      have hd : w2 + d * y = w0 + d * x := by omega
      have d1 : d * x ≤ 199 * 255 := Nat.mul_le_mul (by omega) (by omega)
      have d2 : d * y ≤ 199 * 255 := Nat.mul_le_mul (by omega) (by omega)
      have : d * x = d * y := by omega
      have := Nat.eq_of_mul_eq_mul_left (by omega) this
      omega
  · intro hxy
    have hxy : x = y := by omega
    subst hxy
    exact ⟨by rw [hs], by have : w2 = w0 := by omega
                          rw [this]⟩

/-- One byte more is seen. -/
theorem seen_more (l : List UInt8) (hn : l.length ≤ 200) (y : UInt8) : ((sumN (l ++ [y]) : Int) != (sumN l : Int)) = true := by
  rw [bne_iff_ne]
  intro he
  have he : sumN (l ++ [y]) = sumN l := by omega
  obtain ⟨h1, h2⟩ := (sumN_closed _ _).1 he
  rw [sS_append] at h1
  rw [sW_append] at h2
  simp [sS, sW] at h1 h2
  have h3 := sS_le l
  have := y.toNat_lt
  omega

/-- The sum goes on. -/
theorem halves_append (l m : List UInt8) (p q : Nat) : halves (l ++ m) p q = halves m (halves l p q).1 (halves l p q).2 := by
  induction l generalizing p q with
  | nil => rfl
  | cons c l ih => simp only [List.cons_append, halves]; exact ih _ _
end Go.Proofs.Ytcdgpioljilgeaa
