/- The sum over bytes, as the program and as the reference reckon it: both come to the same number for every list of bytes. -/
import Derived.Test.YtcdgpioljilgeaaProg
import Derived.Test.YtcdgpioljilgeaaBase
namespace Go.Proofs.Ytcdgpioljilgeaa
open Go.RowKit

/-- Both halves of the sum, from some halves on. -/
def halves : List UInt8 → Nat → Nat → Nat × Nat
  | [], p, q => (p, q)
  | c :: l, p, q => halves l ((p + c.toNat) % 65521) ((q + (p + c.toNat) % 65521) % 65521)

theorem halves_take (l : List UInt8) (k : Nat) (h : k < l.length) (p q : Nat) :
    halves (l.take (k + 1)) p q = (((halves (l.take k) p q).1 + l[k].toNat) % 65521, ((halves (l.take k) p q).2 + ((halves (l.take k) p q).1 + l[k].toNat) % 65521) % 65521) := by
  induction l generalizing k p q with
  | nil => simp at h
  | cons c l ih =>
    cases k with
    | zero => simp [halves]
    | succ k => simpa [halves] using ih k (by simpa using h) _ _

theorem halves_lt (l : List UInt8) (p q : Nat) (hp : p < 65521) (hq : q < 65521) : (halves l p q).1 < 65521 ∧ (halves l p q).2 < 65521 := by
  induction l generalizing p q with
  | nil => exact ⟨hp, hq⟩
  | cons c l ih => exact ih _ _ (Nat.mod_lt _ (by decide)) (Nat.mod_lt _ (by decide))

/-- The sum as a number. -/
def sumN (l : List UInt8) : Nat := (halves l 1 0).2 * 65536 + (halves l 1 0).1

theorem sumN_lt (l : List UInt8) : sumN l < 4294967296 := by
  have := halves_lt l 1 0 (by decide) (by decide)
  unfold sumN; omega

theorem join_halves {p q : Nat} (hp : p < 65521) (hq : q < 65521) : Go.bits .or .u32 ((q : Int) * 65536) (p : Int) = ((q * 65536 + p : Nat) : Int) := by
  rw [bits_join .u32 32 (by decide) (fun n h0 h1 => by rw [IntKind.wrap_u32]; omega) 16 _ _ (by omega) (by omega) (by omega) (by omega) (by omega) (by omega)]
  omega

theorem ret_u32 {a b : Int} (h : a = b) : Ending.returned (.int .u32 a) = .returned (.int .u32 b) := by rw [h]

set_option maxHeartbeats 400000 in
theorem sum_of (A : Option Addr) (n c : Nat) (l : List UInt8) (w : World) (hb : Byts w A l) (hn : n = l.length) (hl : l.length ≤ maxLen) :
    Calls Try.prog 75 #[.slice A n c] w fun e w' => e = .returned (.int .u32 (sumN l)) ∧ w = w' := by
  subst hn
  unfold maxLen at hl
  go_enter Try.func75, Try.ntmps75
  go_wp2
  go_loop [3, 4, 9] (fun p q i => ∃ k : Nat, k ≤ l.length ∧ i = .int .i64 k ∧ p = .int .u32 ((halves (l.take k) 1 0).1 : Nat) ∧ q = .int .u32 ((halves (l.take k) 1 0).2 : Nat)) (fun _ _ i => l.length - (intOf i).toNat)
  case atStart => exact ⟨0, Nat.zero_le _, rfl, rfl, rfl⟩
  case round =>
    obtain ⟨k, hk, rfl, rfl, rfl⟩ := hrel
    have hh := halves_lt (l.take k) 1 0 (by decide) (by decide)
    by_cases hlt : k < l.length
    · obtain ⟨b, off, rfl, hcell⟩ := hb.at hlt
      clear hb
      have H := Lib.hid (halves_take l k hlt 1 0)
      have hu : l[k].toNat < 256 := l[k].toNat_lt
      generalize l[k].toNat = u at *
      generalize (halves (l.take k) 1 0).1 = p at *
      generalize (halves (l.take k) 1 0).2 = q at *
      go_wp2
      go_round
      case rel =>
        refine ⟨k + 1, by omega, by go_num, ?_, ?_⟩
        · rw [H.out]; simp only [Value.int.injEq, true_and]; omega
        · rw [H.out]; simp only [Value.int.injEq, true_and]; omega
      case measure => simp [intOf]; omega
    · rw [List.take_of_length_le (by omega)] at *
      go_wp2
      go_ret
      exact ⟨ret_u32 (join_halves hh.1 hh.2), rfl⟩

set_option maxHeartbeats 400000 in
theorem sum_ok (A : Option Addr) (n c : Nat) (l : List UInt8) (v : Int) (w : World) (hb : Byts w A l) (hn : n = l.length) (hl : l.length ≤ maxLen) :
    Calls Try.prog 89 #[.slice A n c, .int .u32 v] w fun e w' => e = .returned (.bool ((sumN l : Int) == v)) ∧ w = w' := by
  subst hn
  go_enter Try.func89, Try.ntmps89
  go_wp2_with (go_at_call 75; refine (sum_of _ _ _ l _ hb rfl hl).mono ?_; rintro e w' ⟨rfl, rfl⟩)
  go_ret
  exact ⟨rfl, rfl⟩

set_option maxHeartbeats 400000 in
theorem ref_sum (A : Option Addr) (n c : Nat) (l : List UInt8) (w : World) (hb : Byts w A l) (hn : n = l.length) (hl : l.length ≤ maxLen) :
    Calls Try.prog 77 #[.slice A n c] w fun e w' => e = .returned (.int .u32 (sumN l)) ∧ w = w' := by
  subst hn
  unfold maxLen at hl
  go_enter Try.func77, Try.ntmps77
  go_wp2
  go_loop [3, 4, 5] (fun p q i => ∃ k : Nat, k ≤ l.length ∧ i = .int .i64 k ∧ p = .int .i64 ((halves (l.take k) 1 0).1 : Nat) ∧ q = .int .i64 ((halves (l.take k) 1 0).2 : Nat)) (fun _ _ i => l.length - (intOf i).toNat)
  case atStart => exact ⟨0, Nat.zero_le _, rfl, rfl, rfl⟩
  case round =>
    obtain ⟨k, hk, rfl, rfl, rfl⟩ := hrel
    have hh := halves_lt (l.take k) 1 0 (by decide) (by decide)
    by_cases hlt : k < l.length
    · obtain ⟨b, off, rfl, hcell⟩ := hb.at hlt
      clear hb
      have H := Lib.hid (halves_take l k hlt 1 0)
      have hu : l[k].toNat < 256 := l[k].toNat_lt
      generalize l[k].toNat = u at *
      generalize (halves (l.take k) 1 0).1 = p at *
      generalize (halves (l.take k) 1 0).2 = q at *
      go_wp2
      go_round
      case rel =>
        refine ⟨k + 1, by omega, by go_num, ?_, ?_⟩
        · rw [H.out]; simp only [Value.int.injEq, true_and]; omega
        · rw [H.out]; simp only [Value.int.injEq, true_and]; omega
      case measure => simp [intOf]; omega
    · rw [List.take_of_length_le (by omega)] at *
      go_wp2
      go_ret
      exact ⟨ret_u32 (by unfold sumN; omega), rfl⟩
end Go.Proofs.Ytcdgpioljilgeaa
