/- Plain laws: what is cut is too short, or has fewer deeds; a byte behind. -/
import Derived.Test.YtdieeleaaejfhaaPackB
set_option linter.unusedVariables false
set_option maxRecDepth 100000
set_option linter.unusedSimpArgs false
namespace Go.Proofs.Ytdieeleaaejfhaa
open Go.RowKit

/-- What is read out of the whole, and out of its first K bytes. -/
def Pre {α : Type} (K : Nat) (s : RS) (r r' : α × RS) : Prop := r.2.e = 0 → s.e = 0 ∧ s.at' ≤ r.2.at' ∧ (r.2.at' ≤ K → r' = r) ∧ ((K : Int) < r.2.at' → 0 ≤ s.at' → s.at' ≤ K → r'.2.e = 3)
theorem Pre.pure {α : Type} (K : Nat) (s : RS) (a : α) : Pre K s (a, s) (a, s) := fun h => ⟨h, Int.le_refl _, fun _ => rfl, fun h1 _ h2 => by simp only at h1; omega⟩
theorem Pre.bind {α β : Type} {K : Nat} {s : RS} {r1 r1' : α × RS} {G G' : α → RS → β × RS} (h1 : Pre K s r1 r1') (h2 : ∀ a t, Pre K t (G a t) (G' a t)) (hd : ∀ a t, t.e ≠ 0 → (G' a t).2 = t) :
    Pre K s (G r1.1 r1.2) (G' r1'.1 r1'.2) := fun he => by
  obtain ⟨a1, a2, a3, a4⟩ := h2 r1.1 r1.2 he
  obtain ⟨b1, b2, b3, b4⟩ := h1 a1
  refine ⟨b1, by omega, fun h => ?_, fun h h0 hK => ?_⟩
  · rw [b3 (by omega)]
    exact a3 h
  · by_cases hc : r1.2.at' ≤ K
    · rw [b3 hc]
      exact a4 h (by omega) hc
    · have h3 := b4 (by omega) h0 hK
      rw [hd _ _ (by rw [h3]; decide)]
      exact h3
theorem take_cut (b : List UInt8) {K m o : Nat} (h : m ≤ K) : ((b.take K).take m).drop o = (b.take m).drop o := by rw [List.take_take, Nat.min_eq_left h]
theorem pre_get (b : List UInt8) {K : Nat} (hK : K ≤ b.length) (k : Nat) (hk : 1 ≤ k ∧ k ≤ 8) (s : RS) : Pre K s (rdGet b s k) (rdGet (b.take K) s k) := fun he => by
  have hl : (b.take K).length = K := by rw [List.length_take]; omega
  have h1 : s.e = 0 := by
    by_cases h : s.e = 0
    · exact h
    · rw [rdGet_dead b s k h] at he
      exact he
  have hat : (rdGet b s k).2.at' = s.at' + k := by unfold rdGet; rw [if_pos h1]
  unfold rdGet at he ⊢
  rw [if_pos h1] at he ⊢
  rw [if_pos h1]
  simp only at he ⊢
  refine ⟨h1, by omega, fun h => ?_, fun h h0 hs => ?_⟩
  · have : getR (b.take K) s.at' k = getR b s.at' k := by
      unfold getR
      by_cases hneg : s.at' < 0 ∨ (k : Int) < 1 ∨ 8 < (k : Int)
      · rw [if_pos hneg, if_pos hneg]
      · rw [if_neg hneg, if_neg hneg, if_neg (by rw [hl]; omega), if_neg (by omega), take_cut b (by omega)]
    rw [this]
  · rcases getR_cases (b.take K) s.at' k h0 hk with ⟨h3, _⟩ | ⟨_, h3⟩
    · rw [hl] at h3; omega
    · rw [h3]
theorem pre_int (b : List UInt8) {K : Nat} (hK : K ≤ b.length) (s : RS) : Pre K s (rdInt b s) (rdInt (b.take K) s) := by
  unfold rdInt
  exact Pre.bind (α := Nat) (β := Int) (pre_get b hK 8 (by decide) s) (G := fun a t => (wrap64 (a : Int), t)) (G' := fun a t => (wrap64 (a : Int), t)) (fun a t => Pre.pure K t _) (fun a t _ => rfl)
theorem getT_mk (b : List UInt8) (o : Int) (h0 : 0 ≤ o) {N : Nat} (hN : num ((b.take (o.toNat + 4)).drop o.toNat) = N) (h : o + 4 + N ≤ b.length) :
    getT b o = ((b.take (o.toNat + 4 + N)).drop (o.toNat + 4), o + 4 + N, 0) := by
  unfold getT
  rw [if_neg (by omega), if_neg (by omega), hN, if_neg (by omega)]
theorem getT_val (b : List UInt8) (o : Int) (h0 : 0 ≤ o) (h : (getT b o).2.2 = 0) : o + 4 + (num ((b.take (o.toNat + 4)).drop o.toNat) : Nat) ≤ b.length ∧
    getT b o = ((b.take (o.toNat + 4 + num ((b.take (o.toNat + 4)).drop o.toNat))).drop (o.toNat + 4), o + 4 + num ((b.take (o.toNat + 4)).drop o.toNat), 0) := by
  have h9 : o + 4 + (num ((b.take (o.toNat + 4)).drop o.toNat) : Nat) ≤ b.length := by
    unfold getT at h
    rw [if_neg (by omega)] at h
    by_cases h4 : (b.length : Int) - 4 < o
    · rw [if_pos h4] at h
      cases h
    · rw [if_neg h4] at h
      by_cases h5 : (b.length : Int) - (o + 4) < num ((b.take (o.toNat + 4)).drop o.toNat)
      · rw [if_pos h5] at h
        cases h
      · omega
  exact ⟨h9, getT_mk b o h0 rfl h9⟩
theorem rdText_dead (b : List UInt8) (s : RS) (h : s.e ≠ 0) : (rdText b s).2 = s := by unfold rdText; rw [if_neg h]
theorem pre_text (b : List UInt8) {K : Nat} (hK : K ≤ b.length) (s : RS) : Pre K s (rdText b s) (rdText (b.take K) s) := fun he => by
  have hl : (b.take K).length = K := by rw [List.length_take]; omega
  have h1 : s.e = 0 := by
    by_cases h : s.e = 0
    · exact h
    · rw [rdText_dead b s h] at he
      exact he
  unfold rdText at he ⊢
  rw [if_pos h1] at he ⊢
  rw [if_pos h1]
  simp only at he ⊢
  have h0 : 0 ≤ s.at' := by
    by_cases h : s.at' < 0
    · unfold getT at he
      rw [if_pos h] at he
      cases he
    · omega
  obtain ⟨c1, c2⟩ := getT_val b s.at' h0 he
  obtain ⟨N, hN⟩ : ∃ N, num ((b.take (s.at'.toNat + 4)).drop s.at'.toNat) = N := ⟨_, rfl⟩
  rw [hN] at c1 c2
  rw [c2]
  simp only
  refine ⟨h1, by omega, fun h => ?_, fun h _ hs => ?_⟩
  · have h6 : s.at'.toNat + 4 ≤ K := by omega
    rw [getT_mk (b.take K) s.at' h0 (N := N) (by rw [take_cut b h6]; exact hN) (by rw [hl]; omega), take_cut b (by omega)]
  · by_cases h6 : (K : Int) - 4 < s.at'
    · unfold getT
      rw [if_neg (by omega), if_pos (by rw [hl]; exact h6)]
    · unfold getT
      rw [if_neg (by omega), if_neg (by rw [hl]; exact h6), take_cut b (by omega), hN, if_pos (by rw [hl]; omega)]
theorem pre_ents (b : List UInt8) {K : Nat} (hK : K ≤ b.length) (k : Nat) (s : RS) (acc : List Ent) : Pre K s (rdEnts b k s acc) (rdEnts (b.take K) k s acc) := by
  induction k generalizing s acc with
  | zero => exact Pre.pure K s acc
  | succ k ih =>
    by_cases h : s.e = 0
    · have e1 : ∀ b, rdEnts b (k + 1) s acc = (fun (a : List UInt8) (t : RS) => (fun (c : Int) (u : RS) => rdEnts b k u (acc ++ [⟨strOf a, c⟩])) (rdInt b t).1 (rdInt b t).2) (rdText b s).1 (rdText b s).2 := fun b => by
        conv => lhs; unfold rdEnts
        rw [if_pos h]
      rw [e1 b, e1 (b.take K)]
      refine (pre_text b hK s).bind (G := fun (a : List UInt8) (t : RS) => (fun (c : Int) (u : RS) => rdEnts b k u (acc ++ [⟨strOf a, c⟩])) (rdInt b t).1 (rdInt b t).2)
        (G' := fun (a : List UInt8) (t : RS) => (fun (c : Int) (u : RS) => rdEnts (b.take K) k u (acc ++ [⟨strOf a, c⟩])) (rdInt (b.take K) t).1 (rdInt (b.take K) t).2) (fun a t => ?_) (fun a t ht => ?_)
      · exact (pre_int b hK t).bind (G := fun (c : Int) (u : RS) => rdEnts b k u (acc ++ [⟨strOf a, c⟩])) (G' := fun (c : Int) (u : RS) => rdEnts (b.take K) k u (acc ++ [⟨strOf a, c⟩])) (fun c u => ih u _) (fun c u hu => by simp only [rdEnts_dead _ k u _ hu])
      · simp only [rdInt_dead _ t ht, rdEnts_dead _ k t _ ht]
    · rw [rdEnts_dead b (k + 1) s acc h, rdEnts_dead (b.take K) (k + 1) s acc h]
      exact Pre.pure K s acc
theorem rdRun_dead (b : List UInt8) (s : RS) (h : s.e ≠ 0) : (rdRun b s).2 = s := by
  unfold rdRun
  simp only [rdInt_dead b s h]
theorem pre_run (b : List UInt8) {K : Nat} (hK : K ≤ b.length) (s : RS) : Pre K s (rdRun b s) (rdRun (b.take K) s) := by
  unfold rdRun
  refine (pre_int b hK s).bind (G := fun x t => ((⟨x, (rdInt b t).1, (rdInt b (rdInt b t).2).1⟩ : RunT), (rdInt b (rdInt b t).2).2)) (G' := fun x t => ((⟨x, (rdInt (b.take K) t).1, (rdInt (b.take K) (rdInt (b.take K) t).2).1⟩ : RunT), (rdInt (b.take K) (rdInt (b.take K) t).2).2)) (fun x t => ?_) (fun x t ht => by simp only [rdInt_dead _ t ht])
  refine (pre_int b hK t).bind (G := fun y u => ((⟨x, y, (rdInt b u).1⟩ : RunT), (rdInt b u).2)) (G' := fun y u => ((⟨x, y, (rdInt (b.take K) u).1⟩ : RunT), (rdInt (b.take K) u).2)) (fun y u => ?_) (fun y u hu => by simp only [rdInt_dead _ u hu])
  exact (pre_int b hK u).bind (G := fun z v => ((⟨x, y, z⟩ : RunT), v)) (G' := fun z v => ((⟨x, y, z⟩ : RunT), v)) (fun z v => Pre.pure K v _) (fun z v _ => rfl)
theorem pre_runs (b : List UInt8) {K : Nat} (hK : K ≤ b.length) (k : Nat) (s : RS) (acc : List RunT) : Pre K s (rdRuns b k s acc) (rdRuns (b.take K) k s acc) := by
  induction k generalizing s acc with
  | zero => exact Pre.pure K s acc
  | succ k ih =>
    by_cases h : s.e = 0
    · have e1 : ∀ b, rdRuns b (k + 1) s acc = (fun (a : RunT) (t : RS) => rdRuns b k t (acc ++ [a])) (rdRun b s).1 (rdRun b s).2 := fun b => by
        conv => lhs; unfold rdRuns
        rw [if_pos h]
      rw [e1 b, e1 (b.take K)]
      exact (pre_run b hK s).bind (G := fun (a : RunT) (t : RS) => rdRuns b k t (acc ++ [a])) (G' := fun (a : RunT) (t : RS) => rdRuns (b.take K) k t (acc ++ [a])) (fun a t => ih t _) (fun a t ht => by simp only [rdRuns_dead _ k t _ ht])
    · rw [rdRuns_dead b (k + 1) s acc h, rdRuns_dead (b.take K) (k + 1) s acc h]
      exact Pre.pure K s acc
theorem rdHead_dead (b : List UInt8) (s : RS) (h : s.e ≠ 0) : (rdHead b s).2 = s := by
  unfold rdHead
  simp only [rdInt_dead b s h, rdText_dead b s h]
theorem pre_head (b : List UInt8) {K : Nat} (hK : K ≤ b.length) (s : RS) : Pre K s (rdHead b s) (rdHead (b.take K) s) := by
  unfold rdHead
  simp only
  refine Pre.bind (pre_int b hK s) (G := fun x0 t0 => ((⟨x0, (rdInt b t0).1, (rdInt b (rdInt b t0).2).1, (rdInt b (rdInt b (rdInt b t0).2).2).1, strOf (rdText b (rdInt b (rdInt b (rdInt b t0).2).2).2).1, [], []⟩ : Ino), (rdText b (rdInt b (rdInt b (rdInt b t0).2).2).2).2))
    (G' := fun x0 t0 => ((⟨x0, (rdInt (b.take K) t0).1, (rdInt (b.take K) (rdInt (b.take K) t0).2).1, (rdInt (b.take K) (rdInt (b.take K) (rdInt (b.take K) t0).2).2).1, strOf (rdText (b.take K) (rdInt (b.take K) (rdInt (b.take K) (rdInt (b.take K) t0).2).2).2).1, [], []⟩ : Ino), (rdText (b.take K) (rdInt (b.take K) (rdInt (b.take K) (rdInt (b.take K) t0).2).2).2).2))
    (fun x0 t0 => ?_) (fun x t ht => by simp only [rdInt_dead _ t ht, rdText_dead _ t ht])
  refine Pre.bind (pre_int b hK t0) (G := fun x1 t1 => ((⟨x0, x1, (rdInt b t1).1, (rdInt b (rdInt b t1).2).1, strOf (rdText b (rdInt b (rdInt b t1).2).2).1, [], []⟩ : Ino), (rdText b (rdInt b (rdInt b t1).2).2).2))
    (G' := fun x1 t1 => ((⟨x0, x1, (rdInt (b.take K) t1).1, (rdInt (b.take K) (rdInt (b.take K) t1).2).1, strOf (rdText (b.take K) (rdInt (b.take K) (rdInt (b.take K) t1).2).2).1, [], []⟩ : Ino), (rdText (b.take K) (rdInt (b.take K) (rdInt (b.take K) t1).2).2).2))
    (fun x1 t1 => ?_) (fun x t ht => by simp only [rdInt_dead _ t ht, rdText_dead _ t ht])
  refine Pre.bind (pre_int b hK t1) (G := fun x2 t2 => ((⟨x0, x1, x2, (rdInt b t2).1, strOf (rdText b (rdInt b t2).2).1, [], []⟩ : Ino), (rdText b (rdInt b t2).2).2))
    (G' := fun x2 t2 => ((⟨x0, x1, x2, (rdInt (b.take K) t2).1, strOf (rdText (b.take K) (rdInt (b.take K) t2).2).1, [], []⟩ : Ino), (rdText (b.take K) (rdInt (b.take K) t2).2).2))
    (fun x2 t2 => ?_) (fun x t ht => by simp only [rdInt_dead _ t ht, rdText_dead _ t ht])
  refine Pre.bind (pre_int b hK t2) (G := fun x3 t3 => ((⟨x0, x1, x2, x3, strOf (rdText b t3).1, [], []⟩ : Ino), (rdText b t3).2))
    (G' := fun x3 t3 => ((⟨x0, x1, x2, x3, strOf (rdText (b.take K) t3).1, [], []⟩ : Ino), (rdText (b.take K) t3).2))
    (fun x3 t3 => ?_) (fun x t ht => by simp only [rdText_dead _ t ht])
  exact Pre.bind (pre_text b hK t3) (G := fun x4 t4 => ((⟨x0, x1, x2, x3, strOf x4, [], []⟩ : Ino), t4)) (G' := fun x4 t4 => ((⟨x0, x1, x2, x3, strOf x4, [], []⟩ : Ino), t4)) (fun x t => Pre.pure K t _) (fun x t _ => rfl)
theorem pre_ino (b : List UInt8) {K : Nat} (hK : K ≤ b.length) (s : RS) : Pre K s (rdIno b s) (rdIno (b.take K) s) := by
  unfold rdIno
  simp only
  refine Pre.bind (pre_head b hK s)
    (G := fun h t => ({ h with ents := (rdEnts b (rdGet b t 4).1 (rdGet b t 4).2 []).1, runs := (rdRuns b (rdGet b (rdEnts b (rdGet b t 4).1 (rdGet b t 4).2 []).2 4).1 (rdGet b (rdEnts b (rdGet b t 4).1 (rdGet b t 4).2 []).2 4).2 []).1 }, (rdRuns b (rdGet b (rdEnts b (rdGet b t 4).1 (rdGet b t 4).2 []).2 4).1 (rdGet b (rdEnts b (rdGet b t 4).1 (rdGet b t 4).2 []).2 4).2 []).2))
    (G' := fun h t => ({ h with ents := (rdEnts (b.take K) (rdGet (b.take K) t 4).1 (rdGet (b.take K) t 4).2 []).1, runs := (rdRuns (b.take K) (rdGet (b.take K) (rdEnts (b.take K) (rdGet (b.take K) t 4).1 (rdGet (b.take K) t 4).2 []).2 4).1 (rdGet (b.take K) (rdEnts (b.take K) (rdGet (b.take K) t 4).1 (rdGet (b.take K) t 4).2 []).2 4).2 []).1 }, (rdRuns (b.take K) (rdGet (b.take K) (rdEnts (b.take K) (rdGet (b.take K) t 4).1 (rdGet (b.take K) t 4).2 []).2 4).1 (rdGet (b.take K) (rdEnts (b.take K) (rdGet (b.take K) t 4).1 (rdGet (b.take K) t 4).2 []).2 4).2 []).2))
    (fun h t => ?_) (fun h t ht => by simp only [rdGet_dead _ t 4 ht, rdEnts_dead _ _ t _ ht, rdRuns_dead _ _ t _ ht])
  refine Pre.bind (pre_get b hK 4 (by decide) t)
    (G := fun n t => ({ h with ents := (rdEnts b n t []).1, runs := (rdRuns b (rdGet b (rdEnts b n t []).2 4).1 (rdGet b (rdEnts b n t []).2 4).2 []).1 }, (rdRuns b (rdGet b (rdEnts b n t []).2 4).1 (rdGet b (rdEnts b n t []).2 4).2 []).2))
    (G' := fun n t => ({ h with ents := (rdEnts (b.take K) n t []).1, runs := (rdRuns (b.take K) (rdGet (b.take K) (rdEnts (b.take K) n t []).2 4).1 (rdGet (b.take K) (rdEnts (b.take K) n t []).2 4).2 []).1 }, (rdRuns (b.take K) (rdGet (b.take K) (rdEnts (b.take K) n t []).2 4).1 (rdGet (b.take K) (rdEnts (b.take K) n t []).2 4).2 []).2))
    (fun n t => ?_) (fun h t ht => by simp only [rdGet_dead _ t 4 ht, rdEnts_dead _ _ t _ ht, rdRuns_dead _ _ t _ ht])
  refine Pre.bind (pre_ents b hK n t [])
    (G := fun es t => ({ h with ents := es, runs := (rdRuns b (rdGet b t 4).1 (rdGet b t 4).2 []).1 }, (rdRuns b (rdGet b t 4).1 (rdGet b t 4).2 []).2))
    (G' := fun es t => ({ h with ents := es, runs := (rdRuns (b.take K) (rdGet (b.take K) t 4).1 (rdGet (b.take K) t 4).2 []).1 }, (rdRuns (b.take K) (rdGet (b.take K) t 4).1 (rdGet (b.take K) t 4).2 []).2))
    (fun es t => ?_) (fun h t ht => by simp only [rdGet_dead _ t 4 ht, rdRuns_dead _ _ t _ ht])
  refine Pre.bind (pre_get b hK 4 (by decide) t)
    (G := fun k t => ({ h with ents := es, runs := (rdRuns b k t []).1 }, (rdRuns b k t []).2))
    (G' := fun k t => ({ h with ents := es, runs := (rdRuns (b.take K) k t []).1 }, (rdRuns (b.take K) k t []).2))
    (fun k t => ?_) (fun h t ht => by simp only [rdRuns_dead _ _ t _ ht])
  exact Pre.bind (pre_runs b hK k t []) (G := fun rs t => ({ h with ents := es, runs := rs }, t)) (G' := fun rs t => ({ h with ents := es, runs := rs }, t)) (fun rs t => Pre.pure K t _) (fun rs t _ => rfl)
theorem rdIno_dead (b : List UInt8) (s : RS) (h : s.e ≠ 0) : (rdIno b s).2 = s := by
  unfold rdIno
  simp only [rdHead_dead b s h, rdGet_dead b s 4 h, rdEnts_dead b _ s _ h, rdRuns_dead b _ s _ h]
/-- A deed out of a cut row of bytes. -/
theorem rdDd_cut (b : List UInt8) {K : Nat} (hK : K ≤ b.length) {o : Int} (h0 : 0 ≤ o) (ho : o < K) (he : (rdDd b ⟨o, 0⟩).2.e = 0) :
    ((rdDd b ⟨o, 0⟩).2.at' ≤ K → rdDd (b.take K) ⟨o, 0⟩ = rdDd b ⟨o, 0⟩) ∧ ((K : Int) < (rdDd b ⟨o, 0⟩).2.at' → (rdDd (b.take K) ⟨o, 0⟩).2.e = 3) := by
  have hg : (rdGet b ⟨o, 0⟩ 1).2 = ⟨o + 1, 0⟩ := by
    unfold rdGet
    rw [if_pos rfl]
    rcases getR_cases b o 1 h0 (by decide) with ⟨_, h, _⟩ | ⟨h, _⟩
    · show (⟨o + 1, (getR b o 1).2⟩ : RS) = ⟨o + 1, 0⟩
      rw [show ((1 : Nat) : Int) = 1 from rfl] at h
      rw [h]
    · omega
  have hp := pre_get b hK 1 (by decide) ⟨o, 0⟩ (by rw [hg])
  rw [hg] at hp
  have hq := hp.2.2.1 (by simp only; omega)
  obtain ⟨v, hv⟩ : ∃ v, (rdGet b ⟨o, 0⟩ 1).1 = v := ⟨_, rfl⟩
  unfold rdDd at he ⊢
  rw [hq]
  simp only [hg, hv] at he ⊢
  by_cases h1 : numKind (v : Int)
  · simp only [if_pos h1] at he ⊢
    have := pre_int b hK ⟨o + 1, 0⟩ he
    refine ⟨fun h => ?_, fun h => this.2.2.2 h (by simp only; omega) (by simp only; omega)⟩
    rw [this.2.2.1 h]
  · simp only [if_neg h1] at he ⊢
    by_cases h2 : (v : Int) = 2
    · simp only [if_pos h2] at he ⊢
      have := pre_ino b hK ⟨o + 1, 0⟩ he
      refine ⟨fun h => ?_, fun h => this.2.2.2 h (by simp only; omega) (by simp only; omega)⟩
      rw [this.2.2.1 h]
    · simp only [if_neg h2] at he ⊢
      cases he
/-- Deeds out of a cut row of bytes: too short, or fewer of them. -/
theorem rdDds_cut (ds : List Dd) {b p : List UInt8} (hb : b = p ++ putDds ds) (hd : ∀ d ∈ ds, DdOk d) {K : Nat} (h1 : p.length ≤ K) (h2 : K < b.length) {o : Int} (ho : o = (p.length : Int)) (f : Nat) (hf : K + 1 ≤ p.length + f) (acc : List Dd) :
    rdDds (b.take K) f ⟨o, 0⟩ acc = ([], 3) ∨ ∃ j, j < ds.length ∧ rdDds (b.take K) f ⟨o, 0⟩ acc = (acc ++ ds.take j, 0) := by
  induction ds generalizing p o f acc with
  | nil =>
    rw [show putDds [] = [] from rfl, List.append_nil] at hb
    rw [hb] at h2
    omega
  | cons d ds ih =>
    have hl : (b.take K).length = K := by rw [List.length_take]; omega
    rw [putDds_cons] at hb
    have hb1 : b = p ++ (putDd d ++ putDds ds) := hb
    have hb2 : b = (p ++ putDd d) ++ putDds ds := by rw [hb]; simp
    have e1 := rdDd_put hb1 (hd d (by simp)) ho
    obtain ⟨f, rfl⟩ : ∃ g, f = g + 1 := ⟨f - 1, by omega⟩
    by_cases hK : K = p.length
    · right
      refine ⟨0, by simp, ?_⟩
      unfold rdDds
      rw [if_neg (by rw [hl]; simp only; omega)]
      simp
    · have hlt : o < (K : Int) := by omega
      obtain ⟨c1, c2⟩ := rdDd_cut b (Nat.le_of_lt h2) (o := o) (by omega) hlt (by rw [e1])
      rw [e1] at c1 c2
      simp only at c1 c2
      by_cases hc : (p ++ putDd d).length ≤ K
      · have e2 := c1 (by omega)
        have hf2 : K + 1 ≤ (p ++ putDd d).length + f := by
          have := putDd_pos d
          rw [List.length_append]
          omega
        rcases ih hb2 (fun x hx => hd x (by simp [hx])) hc rfl f hf2 (acc ++ [d]) with h | ⟨j, hj, h⟩
        · left
          unfold rdDds
          rw [if_pos (by rw [hl]; exact hlt), e2]
          simp only [if_true]
          exact h
        · right
          refine ⟨j + 1, by simp; omega, ?_⟩
          unfold rdDds
          rw [if_pos (by rw [hl]; exact hlt), e2]
          simp only [if_true]
          rw [h]
          simp
      · left
        have e2 := c2 (by omega)
        unfold rdDds
        rw [if_pos (by rw [hl]; exact hlt), if_neg (by rw [e2]; decide), e2]
theorem rdIno_end (b : List UInt8) {o : Int} (ho : o = (b.length : Int)) : (rdIno b ⟨o, 0⟩).2.e = 3 := by
  obtain ⟨E, hE⟩ : ∃ E : RS, E = ⟨o + 8, 3⟩ := ⟨_, rfl⟩
  have hne : E.e ≠ 0 := by rw [hE]; show (3 : Nat) ≠ 0; decide
  have e3 := rdInt_end b ho
  rw [← hE] at e3
  have e5 : (rdHead b ⟨o, 0⟩).2 = E := by
    unfold rdHead
    simp only [e3, rdInt_dead b E hne, rdText_dead b E hne]
  unfold rdIno
  simp only [e5, rdGet_dead b E 4 hne, rdEnts_dead b _ E _ hne, rdRuns_dead b _ E _ hne]
  rw [hE]
theorem rdDd_odd (b : List UInt8) (o o1 : Int) (v : Nat) (e2 : rdGet b ⟨o, 0⟩ 1 = (v, ⟨o1, 0⟩)) (h : o1 = (b.length : Int)) : (rdDd b ⟨o, 0⟩).2.e = if 1 ≤ v ∧ v ≤ 4 then 3 else 5 := by
  have e3 := rdInt_end b h
  have e5 := rdIno_end b h
  unfold rdDd
  simp only [e2]
  by_cases h1 : numKind (v : Int)
  · have hv : 1 ≤ v ∧ v ≤ 4 := by
      clear e2 e3 e5
      unfold numKind at h1
      omega
    rw [if_pos h1, if_pos hv, e3]
  · rw [if_neg h1]
    by_cases h2 : (v : Int) = 2
    · have hv : 1 ≤ v ∧ v ≤ 4 := by
        clear e2 e3 e5
        omega
      simp only [if_pos h2, if_pos hv]
      exact e5
    · have hv : ¬ (1 ≤ v ∧ v ≤ 4) := by
        clear e2 e3 e5
        unfold numKind at h1
        omega
      simp only [if_neg h2, if_neg hv]
/-- A byte behind. -/
theorem rdDds_odd (ds : List Dd) (hd : ∀ d ∈ ds, DdOk d) (k : UInt8) : rdDds (putDds ds ++ [k]) ((putDds ds).length + 1 + 1) ⟨0, 0⟩ [] = ([], if 1 ≤ k.toNat ∧ k.toNat ≤ 4 then 3 else 5) := by
  have hk := k.toNat_lt
  have hlen : ds.length ≤ (putDds ds).length := by
    clear hd
    induction ds with
    | nil => exact Nat.zero_le _
    | cons d ds ih =>
      have := putDd_pos d
      rw [putDds_cons, List.length_append, List.length_cons]
      omega
  obtain ⟨f, hf⟩ : ∃ f, (putDds ds).length + 1 + 1 = ds.length + (f + 1) := ⟨(putDds ds).length + 1 - ds.length, by omega⟩
  have e1 := rdDds_put ds (b := putDds ds ++ [k]) (p := []) (r := [k]) (by simp) hd (o := 0) rfl (f + 1) []
  rw [hf, e1]
  have hkk : ([k] : List UInt8) = low k.toNat 1 := by
    show [k] = [UInt8.ofNat (k.toNat / 2 ^ (8 * 0))]
    simp
  have hb : putDds ds ++ [k] = ([] ++ putDds ds) ++ (low k.toNat 1 ++ []) := by rw [hkk]; simp
  have e2 := rdGet_put hb (by decide) (by omega) (o := (([] ++ putDds ds : List UInt8).length : Int)) rfl
  have hend : ((([] ++ putDds ds) ++ low k.toNat 1 : List UInt8).length : Int) = ((putDds ds ++ [k]).length : Int) := by rw [hkk]; simp
  have e4 := rdDd_odd _ _ _ _ e2 hend
  unfold rdDds
  rw [if_pos (by simp; omega), if_neg (by rw [e4]; split <;> decide), e4]
end Go.Proofs.Ytdieeleaaejfhaa
