/- slices.Grow of nil, and slices.Concat of rows of bytes. -/
import Derived.Test.YtdieeleaaejfhaaZeros
set_option linter.unusedVariables false
set_option maxRecDepth 100000
namespace Go.Proofs.Ytdieeleaaejfhaa
open Go.RowKit

set_option maxHeartbeats 1000000 in
theorem grow_nil (n : Nat) (w : World) (hn : n ≤ 140737488355328) :
    Calls Try.prog 84 #[.slice none 0 0, .int .i64 (n : Int)] w (Ret fun v w' => Own w' w.heap.size v [] ∧ Below w.heap.size w w') := by
  have h1 : ¬ ((n : Int) < 0) := by omega
  obtain ⟨w0, rfl⟩ : ∃ w0 : World, w0 = w := ⟨_, rfl⟩
  by_cases h0 : n = 0
  · subst h0
    clear h1
    go_enter Try.func84, Try.ntmps84
    go_wp2_with fail
    go_ret
    exact Ret.mk ⟨Own.nil _ _, Below.refl _ _⟩
  have h2 : (0 : Int) < (n : Int) := by omega
  have hlen : ([] : List UInt8).length + n ≤ 140737488355328 := by simpa using hn
  go_enter Try.func84, Try.ntmps84
  go_wp2_with (first
    | (at_builtin; refine wpList_wanted (by rfl) fun K hK => wp_zeros_byts _ _ rfl rfl rfl rfl (Own.nil w0 w0.heap.size) hlen (Nat.le_refl _) ?_; intro v' w1 hown hg h3; obtain ⟨g, c, rfl, ⟨hc0, -⟩, -, -, -, -⟩ := hown.form (by simp; omega); refine hK _ _ ?_; clear hK K; simp only [List.nil_append, List.length_replicate] at hown hc0 ⊢)
    | (refine wpList_wanted (by rfl) fun K hK => wp_slice_byts _ _ _ rfl 0 0 rfl (Or.inl ⟨rfl, rfl⟩) (Or.inr ⟨_, _, rfl, rfl⟩) (Nat.le_refl _) (Nat.zero_le _) ?_; intro A' e1 e2 e3; refine hK _ _ ?_; obtain rfl := e2 _ _ rfl (by omega); clear e1 e2 e3 hK K; (try simp only [Nat.sub_zero])))
  go_ret
  refine Ret.mk ⟨by simpa using hown.shorter (Nat.zero_le _), grown_below hg (Nat.le_refl _) (fun k e => by cases e)⟩

/-- A row of slices of bytes that is read. -/
def Rows (w : World) (A : Option Addr) (xs : List (List UInt8)) : Prop :=
  ∀ i (hi : i < xs.length), ∃ b off B' c', A = some ⟨b, off, none⟩ ∧ w.cell? ⟨b, off + i, none⟩ = some (.slice B' xs[i].length c') ∧ Byts w B' xs[i]

theorem cell_lt {w : World} {p : Addr} {v : Value} (h : w.cell? p = some v) : p.block < w.heap.size := by
  by_cases hp : p.block < w.heap.size
  · exact hp
  · unfold World.cell? at h
    rw [Array.getElem?_eq_none (by omega)] at h
    simp at h

theorem Rows.below {w w' : World} {A : Option Addr} {xs : List (List UInt8)} (h : Rows w A xs) (hb : Below w.heap.size w w') : Rows w' A xs := fun i hi => by
  obtain ⟨b, off, B', c', e, hc, hr⟩ := h i hi
  exact ⟨b, off, B', c', e, (hb.cell (cell_lt hc)).trans hc, hr.below hb⟩

theorem flat_take {xs : List (List UInt8)} {k : Nat} (hk : k < xs.length) : (xs.take (k + 1)).flatten = (xs.take k).flatten ++ xs[k] := by
  rw [List.take_succ_eq_append_getElem hk, List.flatten_append, List.flatten_cons, List.flatten_nil, List.append_nil]

theorem flat_le (xs : List (List UInt8)) (k : Nat) : (xs.take k).flatten.length ≤ xs.flatten.length := by
  have h : xs.flatten = (xs.take k).flatten ++ (xs.drop k).flatten := by rw [← List.flatten_append, List.take_append_drop]
  rw [h, List.length_append]; omega

set_option maxRecDepth 100000 in
set_option maxHeartbeats 2000000 in
theorem concat_byts (A : Option Addr) (n c : Nat) (xs : List (List UInt8)) (w : World) (hr : Rows w A xs) (hn : n = xs.length) (hxs : xs.length ≤ 140737488355328) (hlen : xs.flatten.length ≤ 140737488355328) :
    Calls Try.prog 70 #[.slice A n c] w (Ret fun v w' => Own w' w.heap.size v xs.flatten ∧ Below w.heap.size w w') := by
  subst hn
  obtain ⟨w0, rfl⟩ : ∃ w0 : World, w0 = w := ⟨_, rfl⟩
  have HR := Lib.hid hr
  clear hr
  obtain ⟨N, hN⟩ : ∃ N, xs.flatten.length = N := ⟨_, rfl⟩
  rw [hN] at hlen
  have HN := Lib.hid hN
  clear hN
  go_enter Try.func70, Try.ntmps70
  go_upto_region 3 with fail
  go_loopw [3, 11] (fun v3 v11 wr => ∃ k m p : Nat, k ≤ xs.length ∧ v11 = .int .i64 (k : Int) ∧ Hid ((xs.take k).flatten.length = p) ∧ v3 = .int .i64 (p : Int) ∧ wr = w0.drewN m) (fun _ v11 _ => xs.length - (intOf v11).toNat)
  case atStart => exact ⟨0, 0, 0, Nat.zero_le _, rfl, (rfl : ([] : List UInt8).length = 0), rfl, rfl⟩
  case round =>
    obtain ⟨k, m, p, hk, rfl, hp, rfl, rfl⟩ := hrel
    by_cases hlt : k < xs.length
    · obtain ⟨b, off, B', c', rfl, hc, -⟩ := (HR.out.below (below_drewN (Below.refl _ _) m)) k hlt
      have hk1 : (k : Int) < (xs.length : Int) := by omega
      have hle := flat_le xs (k + 1)
      rw [flat_take hlt, List.length_append, hp.out, HN.out] at hle
      have H : Hid ((xs.take (k + 1)).flatten.length = p + xs[k].length) := by
        show _ = _
        rw [flat_take hlt, List.length_append, hp.out]
      generalize xs[k].length = n1 at *
      have hneg : ¬ ((p : Int) + (n1 : Int) < 0) := by omega
      go_wp2_with fail
      go_roundw
      case rel => exact ⟨k + 1, _, p + n1, by omega, by go_num, H, by go_num, rfl⟩
      case measure => simp [intOf]; omega
    · obtain rfl : k = xs.length := by omega
      obtain rfl : p = N := by
        have h1 := hp.out
        rw [List.take_length] at h1
        exact h1.symm.trans HN.out
      clear hp
      go_upto_region 11 with (go_at_call 84; refine (grow_nil _ _ hlen).mono ?_; rintro e w1 ⟨v, rfl, hown, hbel⟩)
      have hbel0 : Below w0.heap.size w0 w1 := (below_drewN (Below.refl _ _) m).trans (hbel.mono (by simp))
      have hown0 : Own w1 w0.heap.size v [] := hown.mono (by simp)
      clear hown hbel
      go_loopw [6, 27] (fun v6 v27 wr => ∃ k : Nat, k ≤ xs.length ∧ v27 = .int .i64 (k : Int) ∧ Own wr w0.heap.size v6 (xs.take k).flatten ∧ Below w0.heap.size w0 wr) (fun _ v27 _ => xs.length - (intOf v27).toNat)
      case atStart => exact ⟨0, Nat.zero_le _, rfl, by simpa using hown0, hbel0⟩
      case round =>
        clear hown0 hbel0
        obtain ⟨k, hk, rfl, hown, hbel⟩ := hrel
        by_cases hlt : k < xs.length
        · obtain ⟨b, off, B', c', rfl, hc, hb⟩ := (HR.out.below hbel) k hlt
          have hk1 : (k : Int) < (xs.length : Int) := by omega
          have hle := flat_le xs (k + 1)
          rw [flat_take hlt, List.length_append, HN.out] at hle
          have H : Hid ((xs.take (k + 1)).flatten = (xs.take k).flatten ++ xs[k]) := flat_take hlt
          have hsz := hbel.size
          generalize xs[k] = y at *
          go_wp2_with (at_builtin; refine wpList_wanted (by rfl) fun K hK => wp_append_byts _ _ rfl rfl rfl hown hb rfl (by omega) hsz ?_; intro v' w' h1 h2 h3; refine hK _ _ ?_; clear hK K)
          go_roundw
          case rel => exact ⟨k + 1, by omega, by go_num, by rw [H.out]; exact h1, hbel.grown h2 hsz (fun j e => (hown.lt e).1)⟩
          case measure => simp [intOf]; omega
        · obtain rfl : k = xs.length := by omega
          rw [List.take_length] at hown
          go_wp2_with fail
          go_ret
          exact Ret.mk ⟨hown, hbel⟩
end Go.Proofs.Ytdieeleaaejfhaa
