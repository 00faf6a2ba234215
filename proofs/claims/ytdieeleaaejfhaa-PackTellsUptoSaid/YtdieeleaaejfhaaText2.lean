/- Both ways of getting a text. -/
import Derived.Test.YtdieeleaaejfhaaText
set_option linter.unusedVariables false
set_option maxRecDepth 100000
namespace Go.Proofs.Ytdieeleaaejfhaa
open Go.RowKit

theorem getR_neg {l : List UInt8} {off n : Int} (h : off < 0 ∨ n < 1 ∨ 8 < n) : getR l off n = (0, 1) := by rw [getR, if_pos h]
theorem getR_short {l : List UInt8} {off n : Int} (h : ¬ (off < 0 ∨ n < 1 ∨ 8 < n)) (h2 : (l.length : Int) - n < off) : getR l off n = (0, 3) := by rw [getR, if_neg h, if_pos h2]
theorem getR_ok {l : List UInt8} {off n : Nat} (h : ¬ (n < 1 ∨ 8 < n)) (h2 : off + n ≤ l.length) : getR l (off : Int) (n : Int) = (num ((l.take (off + n)).drop off), 0) := by
  rw [getR, if_neg (by omega), if_neg (by omega)]; rfl

/-- The text at a place, where it ends, and why there is none. -/
def getT (l : List UInt8) (off : Int) : List UInt8 × Int × Nat :=
  if off < 0 then ([], 0, 1)
  else if (l.length : Int) - 4 < off then ([], 0, 3)
  else if (l.length : Int) - (off + 4) < num ((l.take (off.toNat + 4)).drop off.toNat) then ([], 0, 3)
  else ((l.take (off.toNat + 4 + num ((l.take (off.toNat + 4)).drop off.toNat))).drop (off.toNat + 4), off + 4 + num ((l.take (off.toNat + 4)).drop off.toNat), 0)

theorem getT_short2 {l : List UInt8} {o N : Nat} (hN : num ((l.take (o + 4)).drop o) = N) (h2 : o + 4 ≤ l.length) (h3 : l.length < o + 4 + N) : getT l (o : Int) = ([], 0, 3) := by
  subst hN
  rw [getT, if_neg (by omega), if_neg (by omega), Int.toNat_natCast, if_pos (by omega)]
theorem getT_ok {l : List UInt8} {o N : Nat} (hN : num ((l.take (o + 4)).drop o) = N) (h3 : o + 4 + N ≤ l.length) : getT l (o : Int) = ((l.take (o + 4 + N)).drop (o + 4), ((o + 4 + N : Nat) : Int), 0) := by
  subst hN
  rw [getT, if_neg (by omega), if_neg (by omega), Int.toNat_natCast, if_neg (by omega)]
  simp

set_option maxHeartbeats 1000000 in
theorem codec_getText (A : Option Addr) (k c : Nat) (l : List UInt8) (off : Int) (w : World) {t : List UInt8} {z : Int} {y : Nat} (hx : getT l off = (t, z, y)) (hb : Byts w A l) (hk : k = l.length) (hc : l.length ≤ c) (hl : l.length ≤ 140737488355328)
    (ho1 : -9223372036854775808 ≤ off) (ho2 : off ≤ 9223372036854775807) :
    Calls Try.prog 87 #[.slice A k c, .int .i64 off] w fun e w' => e = .returned (.tuple #[.string (strOf t), .int .i64 z, .int .i64 (y : Int)]) ∧ w' = w := by
  subst hk
  by_cases h1 : off < 0
  · have H := Lib.hid (codec_get' A _ c l off 4 w (getR_neg (Or.inl h1)) hb rfl hc hl ho1 ho2 (by decide) (by decide))
    rw [getT, if_pos h1] at hx
    cases hx
    clear hb ho1 ho2
    go_enter Try.func87, Try.ntmps87
    go_wp2_with (go_at_call 57; go_must (refine H.out.mono ?_); rintro e w1 ⟨rfl, rfl⟩)
    go_ret3
    exact ⟨rfl, rfl⟩
  by_cases h2 : (l.length : Int) - 4 < off
  · have H := Lib.hid (codec_get' A _ c l off 4 w (getR_short (by omega) h2) hb rfl hc hl ho1 ho2 (by decide) (by decide))
    rw [getT, if_neg h1, if_pos h2] at hx
    cases hx
    clear hb ho1 ho2
    go_enter Try.func87, Try.ntmps87
    go_wp2_with (go_at_call 57; go_must (refine H.out.mono ?_); rintro e w1 ⟨rfl, rfl⟩)
    go_ret3
    exact ⟨rfl, rfl⟩
  obtain ⟨o, rfl⟩ := Int.eq_ofNat_of_zero_le (show 0 ≤ off by omega)
  have ho4 : o + 4 ≤ l.length := by omega
  have H := codec_get' A _ c l (o : Int) 4 w (getR_ok (n := 4) (by omega) ho4) hb rfl hc hl ho1 ho2 (by decide) (by decide)
  have hlt := num_lt ((l.take (o + 4)).drop o)
  rw [List.length_drop, List.length_take, Nat.min_eq_left ho4, Nat.add_sub_cancel_left] at hlt
  generalize hN : num ((l.take (o + 4)).drop o) = N at *
  have H := Lib.hid H
  have hN32 : N < 4294967296 := by omega
  clear hlt
  by_cases h3 : l.length < o + 4 + N
  · rw [getT_short2 hN ho4 h3] at hx
    cases hx
    clear hb hN ho1 ho2
    have h3' : (l.length : Int) - ((o : Int) + 4) < (N : Int) := by omega
    go_enter Try.func87, Try.ntmps87
    go_wp2_with (go_at_call 57; go_must (refine H.out.mono ?_); rintro e w1 ⟨rfl, rfl⟩)
    go_ret3
    exact ⟨rfl, rfl⟩
  · rw [getT_ok hN (by omega)] at hx
    cases hx
    clear hN ho1 ho2
    have h3' : ¬ ((l.length : Int) - ((o : Int) + 4) < (N : Int)) := by omega
    have h4' : o + 4 + N ≤ l.length := by omega
    go_enter Try.func87, Try.ntmps87
    go_wp2_with (first
      | (go_at_call 57; go_must (refine H.out.mono ?_); rintro e w1 ⟨rfl, rfl⟩)
      | (refine wpList_wanted (by rfl) fun K hK => wp_slice_byts _ _ _ rfl (o + 4) (o + 4 + N) rfl (Or.inr ⟨_, _, rfl, rfl⟩) (Or.inr ⟨_, _, rfl, rfl⟩) (by omega) (by omega) ?_; intro A' e1 e2 e3; have hm := e1 _ _ hb h4' hc; refine hK _ _ ?_; clear e1 e2 e3 hK K)
      | (refine wpList_wanted (by rfl) fun K hK => wp_convert_to_string _ rfl rfl hm (by simp; omega) ?_; refine hK _ _ ?_; clear hK K))
    go_ret3
    exact ⟨by go_num, rfl⟩
set_option maxHeartbeats 1000000 in
theorem ref_getText (A : Option Addr) (k c : Nat) (l : List UInt8) (off : Int) (w : World) {t : List UInt8} {z : Int} {y : Nat} (hx : getT l off = (t, z, y)) (hb : Byts w A l) (hk : k = l.length) (hc : l.length ≤ c) (hl : l.length ≤ 140737488355328)
    (ho1 : -9223372036854775808 ≤ off) (ho2 : off ≤ 9223372036854775807) :
    Calls Try.prog 86 #[.slice A k c, .int .i64 off] w fun e w' => e = .returned (.tuple #[.string (strOf t), .int .i64 z, .int .i64 (y : Int)]) ∧ ∃ m, w' = w.drewN m := by
  subst hk
  by_cases h1 : off < 0
  · have H := Lib.hid (ref_get' A _ c l off 4 w (getR_neg (Or.inl h1)) hb rfl hl ho1 ho2 (by decide) (by decide))
    rw [getT, if_pos h1] at hx
    cases hx
    clear hb ho1 ho2
    go_enter Try.func86, Try.ntmps86
    go_wp2_with (go_at_call 59; go_must (refine H.out.mono ?_); rintro e w1 ⟨rfl, d, rfl⟩)
    go_ret3
    exact ⟨rfl, _, rfl⟩
  by_cases h2 : (l.length : Int) - 4 < off
  · have H := Lib.hid (ref_get' A _ c l off 4 w (getR_short (by omega) h2) hb rfl hl ho1 ho2 (by decide) (by decide))
    rw [getT, if_neg h1, if_pos h2] at hx
    cases hx
    clear hb ho1 ho2
    go_enter Try.func86, Try.ntmps86
    go_wp2_with (go_at_call 59; go_must (refine H.out.mono ?_); rintro e w1 ⟨rfl, d, rfl⟩)
    go_ret3
    exact ⟨rfl, _, rfl⟩
  obtain ⟨o, rfl⟩ := Int.eq_ofNat_of_zero_le (show 0 ≤ off by omega)
  have ho4 : o + 4 ≤ l.length := by omega
  have H := ref_get' A _ c l (o : Int) 4 w (getR_ok (n := 4) (by omega) ho4) hb rfl hl ho1 ho2 (by decide) (by decide)
  have hlt := num_lt ((l.take (o + 4)).drop o)
  rw [List.length_drop, List.length_take, Nat.min_eq_left ho4, Nat.add_sub_cancel_left] at hlt
  generalize hN : num ((l.take (o + 4)).drop o) = N at *
  have H := Lib.hid H
  have hN32 : N < 4294967296 := by omega
  clear hlt
  by_cases h3 : l.length < o + 4 + N
  · rw [getT_short2 hN ho4 h3] at hx
    cases hx
    clear hb hN ho1 ho2
    have h3' : (l.length : Int) - (o : Int) - 4 < (N : Int) := by omega
    go_enter Try.func86, Try.ntmps86
    go_wp2_with (go_at_call 59; go_must (refine H.out.mono ?_); rintro e w1 ⟨rfl, d, rfl⟩)
    go_ret3
    exact ⟨rfl, _, rfl⟩
  · rw [getT_ok hN (by omega)] at hx
    cases hx
    clear hN ho1 ho2
    have h3' : ¬ ((l.length : Int) - (o : Int) - 4 < (N : Int)) := by omega
    have h4' : o + 4 + N ≤ l.length := by omega
    go_enter Try.func86, Try.ntmps86
    go_wp2_with (first
      | (go_at_call 59; go_must (refine H.out.mono ?_); rintro e w1 ⟨rfl, d, rfl⟩)
      | (refine wpList_wanted (by rfl) fun K hK => wp_slice_byts _ _ _ rfl (o + 4) (o + 4 + N) rfl (Or.inr ⟨_, _, rfl, rfl⟩) (Or.inr ⟨_, _, rfl, rfl⟩) (by omega) (by omega) ?_; intro A' e1 e2 e3; have hm := e1 _ _ (hb.drewN d) h4' hc; refine hK _ _ ?_; clear e1 e2 e3 hK K)
      | (refine wpList_wanted (by rfl) fun K hK => wp_convert_to_string _ rfl rfl hm (by simp; omega) ?_; refine hK _ _ ?_; clear hK K))
    go_ret3
    exact ⟨by go_num, _, rfl⟩
end Go.Proofs.Ytdieeleaaejfhaa
