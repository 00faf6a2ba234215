/- Plain laws of NandStays: pages programmed one by one. -/
import Derived.Test.YtionjddcahgpkaaLawNand2
set_option linter.unusedVariables false
set_option maxRecDepth 100000
set_option linter.unusedSimpArgs false
namespace Go.Proofs.Ytionjddcahgpkaa
open Go.RowKit

/-- Power that goes on, so many steps done. -/
def onS (k : Nat) : PS := ⟨-1, 0, false, [], k⟩
theorem onS_new : PS.new = onS 0 := rfl
theorem onS_did (k : Nat) : (onS k).did = true := rfl
theorem onS_torn (k : Nat) : (onS k).torn = false := rfl
theorem onS_next (k : Nat) : (onS k).next = onS (k + 1) := rfl
theorem onS_fail (k : Nat) : (onS k).failing = false := by simp [onS, PS.failing]
theorem onS_turn (k : Nat) (l : List UInt8) : l.map (turnB (onS k)) = l := by
  rw [turnB_ok (onS_torn k) (by rw [onS_next]; exact onS_fail _)]
  exact List.map_id' _

/-- The i-th page's spare bytes. -/
def spL (i : Nat) : List UInt8 := fitL [UInt8.ofNat i] 16

/-- The first k pages are programmed with these bytes. -/
structure Filled (d : Nat) (X : Nat → List UInt8) (k : Nat) (n : NSt) : Prop where
  pg : ∀ j : Nat, j < k → n.pg ((j / d : Nat) : Int) ((j % d : Nat) : Int) = (X j, spL j)
  z : ∀ b : Nat, k ≤ b * d → n.nx (b : Int) = 0
  m : ∀ b : Nat, b * d ≤ k → k < (b + 1) * d → n.nx (b : Int) = ((k - b * d : Nat) : Int)
theorem Filled.new (g : Geo) (d : Nat) (X : Nat → List UInt8) (hd : 0 < d) : Filled d X 0 (nNew g) := by
  refine ⟨fun j h => by omega, fun b _ => rfl, fun b h1 h2 => ?_⟩
  have : 0 - b * d = 0 := Nat.zero_sub _
  rw [this]
  rfl
theorem div_unique {d k b : Nat} (hd : 0 < d) (h1 : b * d ≤ k) (h2 : k < (b + 1) * d) : b = k / d := by
  have h3 := (Nat.le_div_iff_mul_le hd).2 h1
  have h4 := (Nat.div_lt_iff_lt_mul hd).2 h2
  omega
theorem Filled.step {g : Geo} {d : Nat} {X : Nat → List UInt8} {k : Nat} {n : NSt} (h : Filled d X k n) (hd : 0 < d) (hgd : g.d = (d : Int)) (hk : (k : Int) < g.c * g.d) (hc : 0 ≤ g.c) (hX : ((X k).length : Int) = g.e) :
    ∃ n', nProg g (onS k) n ((k / d : Nat) : Int) ((k % d : Nat) : Int) (X k) (spL k) = (0, n', onS (k + 1)) ∧ Filled d X (k + 1) n' := by
  have hdm := Nat.div_add_mod k d
  have hml := Nat.mod_lt k hd
  have hbl : ((k / d : Nat) : Int) < g.c := by
    obtain ⟨c, hcc⟩ : ∃ c : Nat, g.c = (c : Int) := ⟨g.c.toNat, by omega⟩
    rw [hcc, hgd] at hk
    have h1 : k < c * d := by exact_mod_cast hk
    have h2 := (Nat.div_lt_iff_lt_mul hd).2 h1
    rw [hcc]
    exact_mod_cast h2
  have hok : nOk g ((k / d : Nat) : Int) ((k % d : Nat) : Int) := by
    unfold nOk
    exact ⟨⟨Int.natCast_nonneg _, hbl⟩, Int.natCast_nonneg _, by rw [hgd]; exact_mod_cast hml⟩
  have hmul : k / d * d = d * (k / d) := Nat.mul_comm _ _
  have hm := h.m (k / d) (by omega) (by rw [Nat.add_mul]; omega)
  have hsub : k - k / d * d = k % d := by omega
  rw [hsub] at hm
  have hs16 : (spL k).length = 16 := fitL_length _ _
  refine ⟨⟨upP n.pg ((k / d : Nat) : Int) ((k % d : Nat) : Int) ((X k).map (turnB (onS k)), (spL k).map (turnB (onS k))), up1 n.nx ((k / d : Nat) : Int) (((k % d : Nat) : Int) + 1), n.er⟩, ?_, ?_⟩
  · unfold nProg
    rw [if_pos hok, if_neg (by omega), if_neg (by rw [hm]; exact fun h => h rfl), if_neg (by rw [onS_did]; exact fun h => absurd h.1 (by decide))]
    unfold progR
    rw [if_neg (by rw [onS_torn]; decide), onS_next, if_neg (by rw [onS_fail]; decide)]
  · rw [onS_turn, onS_turn]
    refine ⟨fun j hj => ?_, fun b hb => ?_, fun b h1 h2 => ?_⟩
    · show upP n.pg _ _ (X k, spL k) _ _ = _
      by_cases e : j = k
      · subst e
        exact upP_same _ _ _ _
      · rw [upP_other _ _ (fun hh => e ?_)]
        · exact h.pg j (by omega)
        · have a1 : j / d = k / d := by exact_mod_cast hh.1
          have a2 : j % d = k % d := by exact_mod_cast hh.2
          have := Nat.div_add_mod j d
          rw [a1, a2] at this
          omega
    · show up1 n.nx _ _ _ = 0
      have e : (b : Int) ≠ ((k / d : Nat) : Int) := fun e => by
        have : b = k / d := by exact_mod_cast e
        rw [this] at hb
        omega
      rw [up1_other _ _ e]
      exact h.z b (by omega)
    · show up1 n.nx _ _ _ = _
      by_cases e : b = k / d
      · subst e
        rw [up1_same]
        omega
      · rw [up1_other _ _ (by exact_mod_cast e)]
        have hb : k + 1 = b * d := by
          by_cases h3 : b * d ≤ k
          · exact absurd (div_unique hd h3 (by omega)) e
          · omega
        rw [h.z b (by omega), hb, Nat.sub_self]
        rfl
/-- Behind an erase. -/
theorem filled_erase {g : Geo} {n : NSt} (k : Nat) (b : Int) (hok : nOk g b 0) : ∃ n', nErase g (onS k) n b = (0, n', onS (k + 1)) ∧ n'.nx b = 0 ∧ (∀ x y, n'.pg x y = if x = b then blankP g else n.pg x y) := by
  refine ⟨⟨fun x y => if x = b then blankP g else n.pg x y, up1 n.nx b 0, up1 n.er b (n.er b + 1)⟩, ?_, up1_same _ _ _, fun x y => rfl⟩
  unfold nErase
  rw [if_pos hok, if_neg (by rw [onS_torn]; decide), if_neg (by rw [onS_did]; decide), onS_next, if_neg (by rw [onS_fail]; decide)]
end Go.Proofs.Ytionjddcahgpkaa
