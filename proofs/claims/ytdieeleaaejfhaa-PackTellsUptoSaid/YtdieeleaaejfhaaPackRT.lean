/- The reference's reader, held against the plain one. -/
import Derived.Test.YtdieeleaaejfhaaPackRR
import Derived.Test.YtdieeleaaejfhaaPackX
set_option linter.unusedVariables false
set_option maxRecDepth 100000
namespace Go.Proofs.Ytdieeleaaejfhaa
open Go.RowKit

/-- The reference's reader stands where the plain one does, as long as nothing was wrong. -/
def RTd (w : World) (rb : Nat) (A : Option Addr) (n c : Nat) (b : List UInt8) (s : RS) (X : Int) : Prop :=
  ∃ (a : Int) (bad : Bool), RRd w rb A n c b a bad ∧ bad = decide (s.e ≠ 0) ∧ (s.e = 0 → a = s.at') ∧ 0 ≤ a ∧ a ≤ X ∧ s.ok n
theorem rt_number {w : World} {rb n c : Nat} {A : Option Addr} {b : List UInt8} {s : RS} {X : Int} (h : RTd w rb A n c b s X) (hX : X ≤ 100000000000) {v : Int} {s' : RS} (hE : rdInt b s = (v, s')) :
    Calls Try.prog 61 #[.pointer (some ⟨rb, 0, none⟩)] w fun e w' => ∃ v' : Int, e = .returned (.int .i64 v') ∧ (s.e = 0 → v' = v) ∧ RTd w' rb A n c b s' (X + 8) ∧ Only [rb] w w' := by
  obtain ⟨a, bad, hr, hbad, hat, h0, h1, hok⟩ := h
  obtain ⟨x, y, hxy⟩ : ∃ x y, getR b a 8 = (x, y) := ⟨_, _, rfl⟩
  have hok' := hok
  rw [← hr.len] at hok'
  have hok2 := hok'.int
  rw [hE, hr.len] at hok2
  refine (rr_number hr h0 (by omega) hxy).mono fun e w' ⟨he, hr', ho⟩ => ⟨_, he, fun hs => ?_, ⟨a + 8, _, hr', ?_, fun hs => ?_, by omega, by omega, hok2⟩, ho⟩
  · unfold rdInt rdGet at hE
    rw [if_pos hs, ← hat hs] at hE
    have : (getR b a ((8 : Nat) : Int)) = (x, y) := hxy
    rw [this] at hE
    exact congrArg Prod.fst hE
  · by_cases hs : s.e = 0
    · unfold rdInt rdGet at hE
      rw [if_pos hs, ← hat hs] at hE
      have : (getR b a ((8 : Nat) : Int)) = (x, y) := hxy
      rw [this] at hE
      have h2 : (⟨a + ((8 : Nat) : Int), y⟩ : RS) = s' := congrArg Prod.snd hE
      rw [← h2, hbad]
      simp [hs]
    · have h2 : s' = s := by
        have := rdInt_dead b s hs
        rw [hE] at this
        exact this
      rw [h2, hbad]
      simp [hs]
  · have hs0 : s.e = 0 := by
      by_cases h3 : s.e = 0
      · exact h3
      · have := rdInt_dead b s h3
        rw [hE] at this
        have h4 : s' = s := this
        rw [h4] at hs
        exact hs
    unfold rdInt rdGet at hE
    rw [if_pos hs0, ← hat hs0] at hE
    have h2 : (⟨a + ((8 : Nat) : Int), (getR b a ((8 : Nat) : Int)).2⟩ : RS) = s' := congrArg Prod.snd hE
    rw [← h2]
    rfl
theorem rt_many {w : World} {rb n c : Nat} {A : Option Addr} {b : List UInt8} {s : RS} {X : Int} (h : RTd w rb A n c b s X) (hX : X ≤ 100000000000) {v : Nat} {s' : RS} (hE : rdGet b s 4 = (v, s')) :
    Calls Try.prog 75 #[.pointer (some ⟨rb, 0, none⟩)] w fun e w' => ∃ v' : Int, e = .returned (.int .i64 v') ∧ (s.e = 0 → v' = wrap64 (v : Int)) ∧ RTd w' rb A n c b s' (X + 4) ∧ Only [rb] w w' := by
  obtain ⟨a, bad, hr, hbad, hat, h0, h1, hok⟩ := h
  obtain ⟨x, y, hxy⟩ : ∃ x y, getR b a 4 = (x, y) := ⟨_, _, rfl⟩
  have hok' := hok
  rw [← hr.len] at hok'
  have hok2 := (hok'.get 4 (by decide)).1
  rw [hE, hr.len] at hok2
  refine (rr_many hr h0 (by omega) hxy).mono fun e w' ⟨he, hr', ho⟩ => ⟨_, he, fun hs => ?_, ⟨a + 4, _, hr', ?_, fun hs => ?_, by omega, by omega, hok2⟩, ho⟩
  · unfold rdGet at hE
    rw [if_pos hs, ← hat hs] at hE
    have : (getR b a ((4 : Nat) : Int)) = (x, y) := hxy
    rw [this] at hE
    have h3 : x = v := congrArg Prod.fst hE
    rw [h3]
  · by_cases hs : s.e = 0
    · unfold rdGet at hE
      rw [if_pos hs, ← hat hs] at hE
      have : (getR b a ((4 : Nat) : Int)) = (x, y) := hxy
      rw [this] at hE
      have h2 : (⟨a + ((4 : Nat) : Int), y⟩ : RS) = s' := congrArg Prod.snd hE
      rw [← h2, hbad]
      simp [hs]
    · have h2 : s' = s := by
        have := rdGet_dead b s 4 hs
        rw [hE] at this
        exact congrArg Prod.snd this
      rw [h2, hbad]
      simp [hs]
  · have hs0 : s.e = 0 := by
      by_cases h3 : s.e = 0
      · exact h3
      · have := rdGet_dead b s 4 h3
        rw [hE] at this
        have h4 : s' = s := congrArg Prod.snd this
        rw [h4] at hs
        exact hs
    unfold rdGet at hE
    rw [if_pos hs0, ← hat hs0] at hE
    have h2 : (⟨a + ((4 : Nat) : Int), (getR b a ((4 : Nat) : Int)).2⟩ : RS) = s' := congrArg Prod.snd hE
    rw [← h2]
    rfl
theorem rt_text {w : World} {rb n c : Nat} {A : Option Addr} {b : List UInt8} {s : RS} {X : Int} (h : RTd w rb A n c b s X) (hX : X ≤ 100000000000) (hn : (n : Int) ≤ X) {v : List UInt8} {s' : RS} (hE : rdText b s = (v, s')) :
    Calls Try.prog 74 #[.pointer (some ⟨rb, 0, none⟩)] w fun e w' => ∃ v' : ByteArray, e = .returned (.string v') ∧ (s.e = 0 → v' = strOf v) ∧ RTd w' rb A n c b s' X ∧ Only [rb] w w' := by
  obtain ⟨a, bad, hr, hbad, hat, h0, h1, hok⟩ := h
  obtain ⟨x, z, y, hxy⟩ : ∃ x z y, getT b a = (x, z, y) := ⟨_, _, _, rfl⟩
  have hz : 0 ≤ z ∧ z ≤ X := by
    have hl := hr.len
    rcases getT_cases b a h0 with ⟨_, h3, h4⟩ | ⟨_, h3⟩
    · rw [hxy] at h3 h4
      simp only at h3 h4
      omega
    · rw [hxy] at h3
      simp only at h3
      omega
  have hok' := hok
  rw [← hr.len] at hok'
  have hok2 := hok'.text
  rw [hE, hr.len] at hok2
  refine (rr_text hr h0 (by omega) hxy).mono fun e w' ⟨he, hr', ho⟩ => ⟨_, he, fun hs => ?_, ⟨z, _, hr', ?_, fun hs => ?_, hz.1, hz.2, hok2⟩, ho⟩
  · unfold rdText at hE
    rw [if_pos hs, ← hat hs, hxy] at hE
    have h3 : x = v := congrArg Prod.fst hE
    rw [h3]
  · by_cases hs : s.e = 0
    · unfold rdText at hE
      rw [if_pos hs, ← hat hs, hxy] at hE
      have h2 : (⟨z, y⟩ : RS) = s' := congrArg Prod.snd hE
      rw [← h2, hbad]
      simp [hs]
    · have h2 : s' = s := by
        have := rdText_dead b s hs
        rw [hE] at this
        exact this
      rw [h2, hbad]
      simp [hs]
  · have hs0 : s.e = 0 := by
      by_cases h3 : s.e = 0
      · exact h3
      · have := rdText_dead b s h3
        rw [hE] at this
        have h4 : s' = s := this
        rw [h4] at hs
        exact hs
    unfold rdText at hE
    rw [if_pos hs0, ← hat hs0, hxy] at hE
    have h2 : (⟨z, y⟩ : RS) = s' := congrArg Prod.snd hE
    rw [← h2]
end Go.Proofs.Ytdieeleaaejfhaa
