/- The walks of the laws on numbers and texts as bytes. -/
import Derived.Test.YtcdbndgmfjlmbaaText2
set_option linter.unusedVariables false
namespace Go.Proofs.Ytcdbndgmfjlmbaa
open Go.RowKit

theorem byts_lit2 (w : World) (q : Nat × Nat) : Byts (w.alloc (.cells #[.int .u8 2, .int .u8 1] 5 q)) (some ⟨w.heap.size, 0, none⟩) [2, 1] :=
  Or.inr ⟨_, _, rfl, fun i hi => by
    rw [Nat.zero_add]
    have : i = 0 ∨ i = 1 := by simp at hi; omega
    rcases this with rfl | rfl
    · exact new_cell w [_, _] _ q 0 _ rfl
    · exact new_cell w [_, _] _ q 1 _ rfl⟩

set_option maxRecDepth 100000 in
set_option maxHeartbeats 1000000 in
theorem awake01 (w : World) : Calls Try.prog 35 #[] w fun e w' => e = .returned (.bool true) ∧ Below w.heap.size w w' := by
  have h1 := byts_lit2 w (0, 0)
  obtain ⟨wa, hwa⟩ : ∃ wa, w.alloc (.cells #[.int .u8 2, .int .u8 1] 5) = wa := ⟨_, rfl⟩
  have hbel : Below w.heap.size w wa := by rw [← hwa]; exact below_alloc _ _
  rw [hwa] at h1
  have hg : getR [2, 1] 0 2 = (258, 0) := by rfl
  have H1 := Lib.hid (codec_get' _ 2 2 [2, 1] 0 2 _ hg h1 rfl (by decide) (by decide) (by decide) (by decide) (by decide) (by decide))
  have H2 := Lib.hid (codec_put none 0 0 [] 258 2 wa (Or.inl rfl) rfl (by decide) (by decide) (by decide) (by decide))
  clear hg h1
  have hs1 := hbel.size
  go_enter Try.func35, Try.ntmps35
  go_wp2_with (first
    | (go_at_call 34; go_must (refine H1.out.mono ?_); rintro e w1 ⟨rfl, rfl⟩)
    | (go_at_call 33; go_must (refine H2.out.mono ?_); rintro e w2 ⟨r, rfl, hown, hbel2⟩; have hone := byts_lit2 w2 (0, 0); have hown2 := hown.below (below_alloc w2 (.cells #[.int .u8 2, .int .u8 1] 5)); obtain ⟨A1, c1, rfl, -, hr1, -⟩ := hown2.byts; clear hown)
    | (go_at_call 24; go_must (refine (help_bytes _ _ _ _ _ _ _ _ _ hr1 rfl hone rfl).mono ?_); rintro e w' ⟨rfl, rfl⟩))
  go_ret
  exact ⟨rfl, hbel.trans ((hbel2.trans ((below_alloc _ _).mono hbel2.size)).mono hs1)⟩

theorem num_low (v n : Nat) : num (low v n) = v % 2 ^ (8 * n) := by
  induction n with
  | zero => simp [low, num, Nat.mod_one]
  | succ n ih =>
    rw [low_succ, num_append, ih, low_length, show 8 * (n + 1) = 8 * n + 8 by omega, Nat.pow_add, Nat.mod_mul]
    simp [UInt8.toNat_ofNat']
    rw [Nat.mul_comm]

theorem and_mask (v m : Nat) (hv : v < 18446744073709551616) (hm : m < 8) : bits .and .u64 (v : Int) (IntKind.u64.wrap (IntKind.u64.wrap (2 ^ (8 * m)) - 1)) = ((v % 2 ^ (8 * m) : Nat) : Int) := by
  have hp : 2 ^ (8 * m) ≤ 2 ^ 56 := Nat.pow_le_pow_right (by omega) (by omega)
  have hp1 : 1 ≤ 2 ^ (8 * m) := Nat.one_le_two_pow
  have e0 : ((2 : Int) ^ (8 * m)) = ((2 ^ (8 * m) : Nat) : Int) := by push_cast; rfl
  have e : IntKind.u64.wrap (IntKind.u64.wrap (2 ^ (8 * m)) - 1) = ((2 ^ (8 * m) - 1 : Nat) : Int) := by
    rw [e0]
    generalize 2 ^ (8 * m) = p at *
    rw [IntKind.wrap_u64, IntKind.wrap_u64]; omega
  rw [e, u64_and_nat _ _ hv (by omega), Nat.and_two_pow_sub_one_eq_mod]

theorem getR_low (v m : Nat) (h1 : 1 ≤ m) (h2 : m ≤ 8) : getR (low v m) 0 (m : Int) = (v % 2 ^ (8 * m), 0) := by
  have h := getR_ok (l := low v m) (off := 0) (n := m) (by omega) (by rw [low_length]; omega)
  rw [Nat.zero_add, List.drop_zero, List.take_of_length_le (by rw [low_length]; omega), num_low] at h
  exact h

set_option maxRecDepth 100000 in
set_option maxHeartbeats 1000000 in
theorem codecWide_walk {w : World} (v : Int) (wv : (Lit.int .u64 v).wf = true) (n : Int) (wn : (Lit.int .i64 n).wf = true) :
    Calls Try.prog 11 #[.int .u64 v, .int .i64 n] w fun e w' => e = .returned (.bool true) ∧ Below w.heap.size w w' := by
  have bn := wf_i64 wn
  have bv : 0 ≤ v ∧ v < 18446744073709551616 := by simp [Lit.wf, IntKind.min, IntKind.max, IntKind.signed, IntKind.bits] at wv; omega
  clear wn wv
  obtain ⟨w0, rfl⟩ : ∃ w0 : World, w0 = w := ⟨_, rfl⟩
  obtain ⟨v, rfl⟩ := Int.eq_ofNat_of_zero_le bv.1
  obtain ⟨j, hj, hj8⟩ : ∃ i : Nat, wrap64 ((IntKind.u64.wrap n).tmod 8) = (i : Int) ∧ i < 8 := mod_len n 8 (by decide) (by decide)
  obtain ⟨m, hm⟩ : ∃ m, j + 1 = m := ⟨_, rfl⟩
  have hmj : (1 : Int) + (j : Int) = (m : Int) := by omega
  have hm8 : m ≤ 8 := by omega
  have hm1 : 1 ≤ m := by omega
  have H0 := codec_put none 0 0 [] v (m : Int) w0 (Or.inl rfl) rfl (by decide) (by omega) (by omega) (by omega)
  have hput : ([] : List UInt8) ++ low v (putN (m : Int)) = low v m := by unfold putN; simp; congr 1; omega
  rw [hput] at H0
  have hblen := low_length v m
  have G1 := getR_low v m hm1 hm8
  have G2 : getR (low v m) 1 (m : Int) = (0, 3) := getR_short (by omega) (by omega)
  have H0 := Lib.hid H0
  clear hm hput
  generalize low v m = bl at *
  obtain ⟨want, hwant⟩ : ∃ x : Nat, v % 2 ^ (8 * m) = x := ⟨_, rfl⟩
  rw [hwant] at G1
  have HW := Lib.hid hwant
  have HG1 := Lib.hid G1
  have HG2 := Lib.hid G2
  clear hwant G1 G2
  go_enter Try.func11, Try.ntmps11
  go_upto_region 3 with (go_at_call 33; go_must (refine H0.out.mono ?_); rintro e w1 ⟨r, rfl, hown, hbel⟩; obtain ⟨A1, c1, rfl, ⟨hc1, hc2⟩, hr1, -⟩ := hown.byts)
  clear H0
  have H1 := Lib.hid (codec_get' _ m c1 _ 0 m w1 HG1.out hr1 hblen.symm hc1 (by omega) (by omega) (by omega) (by omega) (by omega))
  have H2 := Lib.hid (codec_get' _ m c1 _ 1 m w1 HG2.out hr1 hblen.symm hc1 (by omega) (by omega) (by omega) (by omega) (by omega))
  go_upto_region 4 with (go_at_call 34; go_must (refine H1.out.mono ?_); rintro e w2 ⟨rfl, rfl⟩)
  go_upto_region 5 with (go_at_call 34; go_must (refine H2.out.mono ?_); rintro e w3 ⟨rfl, rfl⟩)
  go_upto_region 6 with fail
  by_cases h8 : (m : Int) < 8
  · have HB := Lib.hid (and_mask v m (by omega) (by omega))
    go_upto_region 8 with fail
    rw [HB.out, HW.out]
    go_wp2_with (go_at_call 35; refine (awake01 _).mono ?_; rintro e w' ⟨rfl, hbel2⟩)
    go_ret
    exact ⟨rfl, hbel.trans (hbel2.mono hbel.size)⟩
  · have hvw : want = v := by
      have e : m = 8 := by omega
      subst e
      have := HW.out
      omega
    subst hvw
    go_wp2_with (go_at_call 35; refine (awake01 _).mono ?_; rintro e w' ⟨rfl, hbel2⟩)
    go_ret
    exact ⟨rfl, hbel.trans (hbel2.mono hbel.size)⟩
end Go.Proofs.Ytcdbndgmfjlmbaa
