/- codec.Get and the document's Get. -/
import Derived.Test.YtdieeleaaejfhaaCodec
set_option linter.unusedVariables false
set_option maxRecDepth 100000
namespace Go.Proofs.Ytdieeleaaejfhaa
open Go.RowKit

/-- The number of some bytes, the lowest first. -/
def num (l : List UInt8) : Nat := l.foldr (fun b r => b.toNat + 256 * r) 0

theorem num_cons (b : UInt8) (l : List UInt8) : num (b :: l) = b.toNat + 256 * num l := rfl
theorem num_lt (l : List UInt8) : num l < 2 ^ (8 * l.length) := by
  induction l with
  | nil => simp [num]
  | cons b l ih =>
    have hb := b.toNat_lt
    rw [num_cons, List.length_cons, show 8 * (l.length + 1) = 8 * l.length + 8 by omega, Nat.pow_add]
    omega
theorem num_append (l : List UInt8) (b : UInt8) : num (l ++ [b]) = num l + b.toNat * 2 ^ (8 * l.length) := by
  induction l with
  | nil => simp [num]
  | cons a l ih =>
    rw [List.cons_append, num_cons, num_cons, ih, List.length_cons, show 8 * (l.length + 1) = 8 * l.length + 8 by omega, Nat.pow_add]
    have : 256 * (b.toNat * 2 ^ (8 * l.length)) = b.toNat * (2 ^ (8 * l.length) * 2 ^ 8) := by
      rw [show (2 : Nat) ^ 8 = 256 from rfl, ← Nat.mul_assoc, Nat.mul_comm (2 ^ (8 * l.length)) 256, ← Nat.mul_assoc, Nat.mul_comm 256]
    omega

/-- What is got: the number, and why there is none. -/
def getR (l : List UInt8) (off n : Int) : Nat × Nat :=
  if off < 0 ∨ n < 1 ∨ 8 < n then (0, 1) else if (l.length : Int) - n < off then (0, 3) else (num ((l.take (off.toNat + n.toNat)).drop off.toNat), 0)

theorem or_shl (y x j : Nat) (hy : y < 2 ^ (8 * j)) (hx : x < 256) (hj : j < 8) : bits .or .u64 (y : Int) (IntKind.u64.wrap ((x : Int) * 2 ^ (8 * j))) = ((y + x * 2 ^ (8 * j) : Nat) : Int) := by
  have hp : 2 ^ (8 * j) ≤ 2 ^ 56 := Nat.pow_le_pow_right (by omega) (by omega)
  have hxp : x * 2 ^ (8 * j) ≤ 255 * 2 ^ 56 := Nat.mul_le_mul (by omega) hp
  have e : IntKind.u64.wrap ((x : Int) * 2 ^ (8 * j)) = ((x * 2 ^ (8 * j) : Nat) : Int) := by
    have : ((x : Int) * 2 ^ (8 * j)) = ((x * 2 ^ (8 * j) : Nat) : Int) := by push_cast; rfl
    rw [this, IntKind.wrap_u64]; omega
  rw [e, u64_or_nat _ _ (by omega) (by omega)]
  congr 1
  have := Nat.two_pow_add_eq_or_of_lt hy x
  rw [Nat.or_comm, Nat.mul_comm x, ← this, Nat.add_comm]

theorem shl_or (v x : Nat) (hv : v < 2 ^ 56) (hx : x < 256) : bits .or .u64 ((v : Int) * 256) (x : Int) = ((x + 256 * v : Nat) : Int) := by
  have e : ((v : Int) * 256) = ((v * 256 : Nat) : Int) := by omega
  rw [e, u64_or_nat _ _ (by omega) (by omega)]
  congr 1
  have := Nat.two_pow_add_eq_or_of_lt (i := 8) (b := x) (by omega) v
  rw [Nat.mul_comm v, show (256 : Nat) = 2 ^ 8 from rfl, ← this, Nat.add_comm]

set_option maxRecDepth 100000 in
set_option maxHeartbeats 2000000 in
theorem codec_get (A : Option Addr) (k c : Nat) (l : List UInt8) (off n : Int) (w : World) (hb : Byts w A l) (hk : k = l.length) (hc : l.length ≤ c) (hl : l.length ≤ 140737488355328)
    (ho1 : -9223372036854775808 ≤ off) (ho2 : off ≤ 9223372036854775807) (hn1 : -9223372036854775808 ≤ n) (hn2 : n ≤ 9223372036854775807) :
    Calls Try.prog 57 #[.slice A k c, .int .i64 off, .int .i64 n] w fun e w' => e = .returned (.tuple #[.int .u64 ((getR l off n).1 : Int), .int .i64 ((getR l off n).2 : Int)]) ∧ w' = w := by
  subst hk
  by_cases h1 : off < 0
  · have HX := Lib.hid (show getR l off n = (0, 1) by rw [getR, if_pos (by omega)])
    go_enter Try.func57, Try.ntmps57
    go_wp2_with fail
    go_ret2
    exact ⟨by rw [HX.out]; rfl, rfl⟩
  by_cases h2 : n < 1
  · have HX := Lib.hid (show getR l off n = (0, 1) by rw [getR, if_pos (by omega)])
    go_enter Try.func57, Try.ntmps57
    go_wp2_with fail
    go_ret2
    exact ⟨by rw [HX.out]; rfl, rfl⟩
  by_cases h3 : 8 < n
  · have HX := Lib.hid (show getR l off n = (0, 1) by rw [getR, if_pos (by omega)])
    go_enter Try.func57, Try.ntmps57
    go_wp2_with fail
    go_ret2
    exact ⟨by rw [HX.out]; rfl, rfl⟩
  by_cases h4 : (l.length : Int) - n < off
  · have HX := Lib.hid (show getR l off n = (0, 3) by rw [getR, if_neg (by omega), if_pos h4])
    go_enter Try.func57, Try.ntmps57
    go_wp2_with fail
    go_ret2
    exact ⟨by rw [HX.out]; rfl, rfl⟩
  obtain ⟨o, rfl⟩ := Int.eq_ofNat_of_zero_le (show 0 ≤ off by omega)
  obtain ⟨q, rfl⟩ := Int.eq_ofNat_of_zero_le (show 0 ≤ n by omega)
  have HX := Lib.hid (show getR l (o : Int) (q : Int) = (num ((l.take (o + q)).drop o), 0) by rw [getR, if_neg (by omega), if_neg h4]; rfl)
  have hoq : o + q ≤ l.length := by omega
  obtain ⟨m, hm⟩ : ∃ m, (l.take (o + q)).drop o = m := ⟨_, rfl⟩
  rw [hm] at HX
  have hml : m.length = q := by rw [← hm]; simp; omega
  have HM := Lib.hid hm
  clear hm ho1 ho2 hn1 hn2
  go_enter Try.func57, Try.ntmps57
  go_upto_region 7 with (refine wpList_wanted (by rfl) fun K hK => wp_slice_byts _ _ _ rfl o (o + q) rfl (Or.inr ⟨_, _, rfl, rfl⟩) (Or.inr ⟨_, _, rfl, rfl⟩) (by omega) (by omega) ?_; intro A' e1 e2 e3; have hm := e1 _ _ hb hoq hc; rw [HM.out] at hm; refine hK _ _ ?_; clear e1 e2 e3 hK K)
  obtain ⟨w0, rfl⟩ : ∃ w0 : World, w0 = w := ⟨_, rfl⟩
  (try simp only [Nat.add_sub_cancel_left])
  go_loopw [8, 9, 10, 36] (fun v8 v9 v10 v36 wr => ∃ j y : Nat, j ≤ q ∧ v36 = .int .i64 (j : Int) ∧ v8 = .int .u64 (y : Int) ∧ Hid (num (m.take j) = y) ∧ wr = w0) (fun _ _ _ v36 _ => q - (intOf v36).toNat)
  case atStart => exact ⟨0, 0, Nat.zero_le _, rfl, rfl, (rfl : num [] = 0), rfl⟩
  case round =>
    obtain ⟨j, y, hj, rfl, rfl, hy, rfl⟩ := hrel
    by_cases hlt : j < q
    · obtain ⟨b, off, rfl, hcell⟩ := hm.at (show j < m.length by omega)
      have hji : (j : Int) < (q : Int) := by omega
      have hlt2 := num_lt (m.take j)
      rw [hy.out, List.length_take, Nat.min_eq_left (by omega)] at hlt2
      have H2 : Hid (num (m.take (j + 1)) = y + m[j].toNat * 2 ^ (8 * j)) := by
        show _ = _
        rw [List.take_succ_eq_append_getElem (by omega), num_append, hy.out, List.length_take, Nat.min_eq_left (by omega)]
      generalize m[j] = x at *
      have hx := x.toNat_lt
      go_wp2_with fail
      go_roundw
      case rel => exact ⟨j + 1, y + x.toNat * 2 ^ (8 * j), by omega, by go_num, by rw [or_shl y x.toNat j hlt2 hx (by omega)], H2, trivial⟩
      case measure => simp [intOf]; omega
    · obtain rfl : j = q := by omega
      have H3 : Hid (num m = y) := by
        have := hy.out
        rw [List.take_of_length_le (by omega)] at this
        exact this
      go_wp2_with fail
      go_ret2
      exact ⟨by rw [HX.out, H3.out]; rfl, rfl⟩

set_option maxRecDepth 100000 in
set_option maxHeartbeats 2000000 in
theorem ref_get (A : Option Addr) (k c : Nat) (l : List UInt8) (off n : Int) (w : World) (hb : Byts w A l) (hk : k = l.length) (hl : l.length ≤ 140737488355328)
    (ho1 : -9223372036854775808 ≤ off) (ho2 : off ≤ 9223372036854775807) (hn1 : -9223372036854775808 ≤ n) (hn2 : n ≤ 9223372036854775807) :
    Calls Try.prog 59 #[.slice A k c, .int .i64 off, .int .i64 n] w fun e w' => e = .returned (.tuple #[.int .u64 ((getR l off n).1 : Int), .int .i64 ((getR l off n).2 : Int)]) ∧ ∃ m, w' = w.drewN m := by
  subst hk
  by_cases h1 : off < 0
  · have HX := Lib.hid (show getR l off n = (0, 1) by rw [getR, if_pos (by omega)])
    go_enter Try.func59, Try.ntmps59
    go_wp2_with fail
    go_ret2
    exact ⟨by rw [HX.out]; rfl, 0, rfl⟩
  by_cases h2 : n < 1
  · have HX := Lib.hid (show getR l off n = (0, 1) by rw [getR, if_pos (by omega)])
    go_enter Try.func59, Try.ntmps59
    go_wp2_with fail
    go_ret2
    exact ⟨by rw [HX.out]; rfl, 0, rfl⟩
  by_cases h3 : 8 < n
  · have HX := Lib.hid (show getR l off n = (0, 1) by rw [getR, if_pos (by omega)])
    go_enter Try.func59, Try.ntmps59
    go_wp2_with fail
    go_ret2
    exact ⟨by rw [HX.out]; rfl, 0, rfl⟩
  by_cases h5 : (l.length : Int) < off
  · have HX := Lib.hid (show getR l off n = (0, 3) by rw [getR, if_neg (by omega), if_pos (by omega)])
    go_enter Try.func59, Try.ntmps59
    go_wp2_with fail
    go_ret2
    exact ⟨by rw [HX.out]; rfl, 0, rfl⟩
  by_cases h4 : (l.length : Int) - off < n
  · have HX := Lib.hid (show getR l off n = (0, 3) by rw [getR, if_neg (by omega), if_pos (by omega)])
    go_enter Try.func59, Try.ntmps59
    go_wp2_with fail
    go_ret2
    exact ⟨by rw [HX.out]; rfl, 0, rfl⟩
  obtain ⟨o, rfl⟩ := Int.eq_ofNat_of_zero_le (show 0 ≤ off by omega)
  obtain ⟨q, rfl⟩ := Int.eq_ofNat_of_zero_le (show 0 ≤ n by omega)
  have HX := Lib.hid (show getR l (o : Int) (q : Int) = (num ((l.take (o + q)).drop o), 0) by rw [getR, if_neg (by omega), if_neg (by omega)]; rfl)
  have hoq : o + q ≤ l.length := by omega
  obtain ⟨m, hm⟩ : ∃ m, (l.take (o + q)).drop o = m := ⟨_, rfl⟩
  rw [hm] at HX
  have hml : m.length = q := by rw [← hm]; simp; omega
  have HM := Lib.hid hm
  clear hm ho1 ho2 hn1 hn2
  go_enter Try.func59, Try.ntmps59
  obtain ⟨w0, rfl⟩ : ∃ w0 : World, w0 = w := ⟨_, rfl⟩
  go_upto_region 7 with fail
  go_loopw [8, 9] (fun v8 v9 wr => ∃ r y d : Nat, r ≤ q ∧ v9 = .int .i64 ((r : Int) - 1) ∧ v8 = .int .u64 (y : Int) ∧ Hid (num (m.drop r) = y) ∧ wr = w0.drewN d) (fun _ v9 _ => (intOf v9 + 1).toNat)
  case atStart => exact ⟨q, 0, 0, Nat.le_refl _, rfl, rfl, (by show num (m.drop q) = 0; rw [List.drop_of_length_le (by omega)]; rfl), rfl⟩
  case round =>
    obtain ⟨r, y, d, hr, rfl, rfl, hy, rfl⟩ := hrel
    by_cases hlt : 0 < r
    · obtain ⟨r, rfl⟩ : ∃ x, r = x + 1 := ⟨r - 1, by omega⟩
      have hb1 := hb.drewN d
      obtain ⟨b, off, rfl, hcell⟩ := hb1.at (show o + r < l.length by omega)
      have hge : (0 : Int) ≤ ((r + 1 : Nat) : Int) - 1 := by omega
      have hge2 : ((r + 1 : Nat) : Int) - 1 = (r : Int) := by omega
      have hmr : l[o + r]'(by omega) = m[r]'(by omega) := by
        have := HM.out
        subst this
        simp
      have hlt2 := num_lt (m.drop (r + 1))
      rw [hy.out, List.length_drop] at hlt2
      have hlt3 : y < 2 ^ 56 := Nat.lt_of_lt_of_le hlt2 (Nat.pow_le_pow_right (by omega) (by omega))
      have H2 : Hid (num (m.drop r) = m[r].toNat + 256 * y) := by
        show _ = _
        rw [List.drop_eq_getElem_cons (by omega), num_cons, hy.out]
      rw [hmr] at hcell
      generalize m[r] = x at *
      have hx := x.toNat_lt
      clear hmr
      rw [hge2]
      go_wp2_with fail
      go_roundw
      case rel => exact ⟨r, x.toNat + 256 * y, _, by omega, by go_num, by rw [shl_or y x.toNat hlt3 hx], H2, rfl⟩
      case measure => simp [intOf]
    · obtain rfl : r = 0 := by omega
      have H3 : Hid (num m = y) := hy.out
      go_wp2_with fail
      go_ret2
      exact ⟨by rw [HX.out, H3.out]; rfl, _, rfl⟩
end Go.Proofs.Ytdieeleaaejfhaa
