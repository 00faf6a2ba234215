/- Bytes as a chip of pages, in plain words. Nothing here speaks of the program. -/
import Derived.Test.YtionjddcahgpkaaFlat
set_option linter.unusedVariables false
set_option maxRecDepth 100000
namespace Go.Proofs.Ytionjddcahgpkaa

/-- The q-th page's bytes. -/
def chunk (x : List UInt8) (Z q : Nat) : List UInt8 := (x.drop (q * Z)).take Z
/-- One page is laid in: one that is erased leaves all as it is. -/
def ldStep (E : Nat) (n : NSt) (b p : Int) (c : List UInt8) : NSt := if c = ffs (E + 16) then n else ⟨upP n.pg b p (c.take E, c.drop E), up1 n.nx b (p + 1), n.er⟩
def ldTo (D E : Nat) (x : List UInt8) (n0 : NSt) : Nat → NSt
  | 0 => n0
  | q + 1 => ldStep E (ldTo D E x n0 q) ((q / D : Nat) : Int) ((q % D : Nat) : Int) (chunk x (E + 16) q)

section
variable {C D E : Nat} {x : List UInt8} {n0 : NSt}
theorem chunk_len {q Z M : Nat} (hx : x.length = M * Z) (hq : q < M) : (chunk x Z q).length = Z := by
  unfold chunk
  have : (q + 1) * Z ≤ M * Z := Nat.mul_le_mul_right _ hq
  rw [Nat.add_mul, Nat.one_mul] at this
  rw [List.length_take, List.length_drop, hx]
  omega
theorem div_at {i k : Nat} (hk : k < D) : (i * D + k) / D = i := by
  rw [Nat.add_comm, Nat.add_mul_div_right _ _ (by omega), Nat.div_eq_of_lt hk, Nat.zero_add]
theorem mod_at {i k : Nat} (hk : k < D) : (i * D + k) % D = k := by
  rw [Nat.add_comm, Nat.add_mul_mod_self_right, Nat.mod_eq_of_lt hk]
theorem ldTo_at (i k : Nat) (hk : k < D) : ldTo D E x n0 (i * D + k + 1) = ldStep E (ldTo D E x n0 (i * D + k)) (i : Int) (k : Int) (chunk x (E + 16) (i * D + k)) := by
  show ldStep E (ldTo D E x n0 (i * D + k)) (((i * D + k) / D : Nat) : Int) (((i * D + k) % D : Nat) : Int) _ = _
  rw [div_at hk, mod_at hk]
theorem ldTo_er (q : Nat) : (ldTo D E x n0 q).er = n0.er := by
  induction q with
  | zero => rfl
  | succ q ih =>
    show (ldStep E _ _ _ _).er = _
    unfold ldStep
    split
    · exact ih
    · exact ih
theorem ldTo_pg (hD : 0 < D) (hx : x.length = C * D * (E + 16)) (hn : ∀ b p, n0.pg b p = (ffs E, ffs 16)) (q : Nat) (hq : q ≤ C * D) (b p : Nat) (hp : p < D) :
    (ldTo D E x n0 q).pg (b : Int) (p : Int) = if b * D + p < q then ((chunk x (E + 16) (b * D + p)).take E, (chunk x (E + 16) (b * D + p)).drop E) else (ffs E, ffs 16) := by
  induction q with
  | zero => rw [if_neg (by omega)]; exact hn _ _
  | succ q ih =>
    have ih := ih (by omega)
    show (ldStep E (ldTo D E x n0 q) ((q / D : Nat) : Int) ((q % D : Nat) : Int) (chunk x (E + 16) q)).pg (b : Int) (p : Int) = _
    have hdm := Nat.div_add_mod q D
    rw [Nat.mul_comm] at hdm
    have hml := Nat.mod_lt q hD
    by_cases e : b * D + p = q
    · have e2 : q / D = b ∧ q % D = p := by rw [← e]; exact ⟨div_at hp, mod_at hp⟩
      rw [e2.1, e2.2, e, if_pos (by omega)]
      unfold ldStep
      split
      · rename_i hc
        rw [ih, if_neg (by omega), hc]
        have h1 : (ffs (E + 16)).take E = ffs E := ffs_take _ _ (by omega)
        have h2 : (ffs (E + 16)).drop E = ffs 16 := by simp only [ffs, List.drop_replicate]; congr 1; omega
        rw [h1, h2]
      · show upP _ (b : Int) (p : Int) _ (b : Int) (p : Int) = _
        rw [upP_same]
    · have hne : ¬ ((b : Int) = ((q / D : Nat) : Int) ∧ (p : Int) = ((q % D : Nat) : Int)) := fun ⟨h1, h2⟩ => e (by
        have h1 : b = q / D := by omega
        have h2 : p = q % D := by omega
        rw [h1, h2]; exact hdm)
      have hr : (ldStep E (ldTo D E x n0 q) ((q / D : Nat) : Int) ((q % D : Nat) : Int) (chunk x (E + 16) q)).pg (b : Int) (p : Int) = (ldTo D E x n0 q).pg (b : Int) (p : Int) := by
        unfold ldStep
        split
        · rfl
        · exact upP_other _ _ hne
      rw [hr, ih]
      by_cases h : b * D + p < q
      · rw [if_pos h, if_pos (by omega)]
      · rw [if_neg h, if_neg (by omega)]
theorem ldTo_ok {g : Geo} {N : Nat} (hg : g.d = (D : Int)) (hge : g.e = (E : Int)) (hgc : g.c = (C : Int)) (hD : 0 < D) (hx : x.length = C * D * (E + 16)) (hn : NOk g n0 N) (q : Nat) (hq : q ≤ C * D) : NOk g (ldTo D E x n0 q) N := by
  induction q with
  | zero => exact hn
  | succ q ih =>
    have ih := ih (by omega)
    show NOk g (ldStep E (ldTo D E x n0 q) ((q / D : Nat) : Int) ((q % D : Nat) : Int) (chunk x (E + 16) q)) N
    have hml := Nat.mod_lt q hD
    have hql : q / D < C := (Nat.div_lt_iff_lt_mul hD).2 (by omega)
    have hcl := chunk_len (Z := E + 16) hx (by omega : q < C * D)
    unfold ldStep
    split
    · exact ih
    · generalize q / D = b at *
      generalize q % D = p at *
      refine ⟨fun y z hyz => ?_, fun y => ?_, ih.er, fun y hy => ?_⟩
      · show ((upP _ (b : Int) (p : Int) _ y z).1.length : Int) = g.e ∧ (upP _ (b : Int) (p : Int) _ y z).2.length = 16
        by_cases e : y = (b : Int) ∧ z = (p : Int)
        · rw [e.1, e.2, upP_same]
          simp only [List.length_take, List.length_drop]
          omega
        · rw [upP_other _ _ e]
          exact ih.sz y z hyz
      · show 0 ≤ up1 _ (b : Int) ((p : Int) + 1) y ∧ up1 _ (b : Int) ((p : Int) + 1) y ≤ g.d
        by_cases e : y = (b : Int)
        · rw [e, up1_same]; omega
        · rw [up1_other _ _ e]; exact ih.nx y
      · have e : y ≠ (b : Int) := by rintro rfl; exact hy (by omega)
        exact ⟨by show up1 _ (b : Int) ((p : Int) + 1) y = 0; rw [up1_other _ _ e]; exact (ih.out y hy).1, (ih.out y hy).2⟩
/-- Of blocks that are not reached none counts. -/
theorem ldTo_later (hn : ∀ b, n0.nx b = 0) (hD : 0 < D) (i q : Nat) (hq : q ≤ i * D) : (ldTo D E x n0 q).nx (i : Int) = 0 := by
  induction q with
  | zero => exact hn _
  | succ q ih =>
    have ih := ih (by omega)
    show (ldStep E (ldTo D E x n0 q) ((q / D : Nat) : Int) ((q % D : Nat) : Int) (chunk x (E + 16) q)).nx (i : Int) = 0
    unfold ldStep
    split
    · exact ih
    · show up1 _ _ _ (i : Int) = 0
      have : q / D < i := (Nat.div_lt_iff_lt_mul hD).2 (by omega)
      rw [up1_other _ _ (by omega)]
      exact ih
end
end Go.Proofs.Ytionjddcahgpkaa
