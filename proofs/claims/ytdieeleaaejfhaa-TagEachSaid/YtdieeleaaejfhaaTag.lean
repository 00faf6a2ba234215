/- The contracts of tags: of a page, as bytes; and the reference's. -/
import Derived.Test.YtdieeleaaejfhaaText2
import Derived.Test.YtdieeleaaejfhaaSum
import Derived.Test.YtdieeleaaejfhaaOnly
import Derived.Deep.RegionHeld3
import Derived.IntWalk
set_option linter.unusedVariables false
set_option maxRecDepth 100000
namespace Go.Proofs.Ytdieeleaaejfhaa
open Go.RowKit

/-- May a number stand in a tag? -/
def wth (v : Int) : Bool := decide (0 ≤ v) && decide (v < 2147483648)
/-- A tag's bytes. -/
def tagAll (a b s : Nat) : List UInt8 := low a 4 ++ low b 4 ++ low s 4 ++ low (sumN (low a 4 ++ low b 4 ++ low s 4)) 4
def wrErr (no ix : Int) : Int := if wth no && wth ix then 0 else 1
def wrBytes (no ix : Int) (s : Nat) : List UInt8 := if wth no && wth ix then tagAll no.toNat ix.toNat s else []

set_option maxHeartbeats 1000000 in
theorem tag_put4 (A : Option Addr) (n c : Nat) (l : List UInt8) (v : Nat) (w : World) (hb : Byts w A l) (hn : n = l.length) (hl : l.length ≤ 100) (hv : v < 18446744073709551616) :
    Calls Try.prog 53 #[.slice A n c, .int .u64 (v : Int), .int .i64 4] w (Ret fun r w' => ∃ A' c' L, r = .slice A' L.length c' ∧ Hid (L = l ++ low v 4) ∧ L.length ≤ 104 ∧ (L.length ≤ c' ∧ c' ≤ maxLen) ∧ Own w' w.heap.size (.slice A' L.length c') L ∧ Byts w' A' L ∧ Below w.heap.size w w') := by
  refine (codec_put A n c l v 4 w hb hn (by omega) hv (by decide) (by decide)).mono ?_
  rintro e w' ⟨r, rfl, hown, hbel⟩
  have h4 : putN 4 = 4 := rfl
  rw [h4] at hown
  obtain ⟨A', c', rfl, hc, hr, -⟩ := hown.byts
  exact Ret.mk ⟨A', c', _, rfl, rfl, by rw [List.length_append, low_length]; omega, hc, hown, hr, hbel⟩

set_option maxHeartbeats 400000 in
theorem tag_within (v : Int) (w : World) (h1 : -9223372036854775808 ≤ v) (h2 : v ≤ 9223372036854775807) : Calls Try.prog 52 #[.int .i64 v] w fun e w' => e = .returned (.bool (wth v)) ∧ w = w' := by
  by_cases h0 : 0 ≤ v
  · by_cases h3 : v < 2147483648
    · have e : wth v = true := by unfold wth; simp [h0, h3]
      rw [e]
      clear e
      have hx : v ≤ 2147483647 := by omega
      go_enter Try.func52, Try.ntmps52
      go_wp2_with fail
      go_ret
      exact ⟨by simp, rfl⟩
    · have e : wth v = false := by unfold wth; simp [h3]
      rw [e]
      clear e
      have hx : ¬ v ≤ 2147483647 := by omega
      go_enter Try.func52, Try.ntmps52
      go_wp2_with fail
      go_ret
      exact ⟨by simp, rfl⟩
  · have e : wth v = false := by unfold wth; simp [h0]
    rw [e]
    clear e
    go_enter Try.func52, Try.ntmps52
    go_wp2_with fail
    go_ret
    exact ⟨by simp, rfl⟩

set_option maxHeartbeats 4000000 in
theorem tag_write (no ix : Int) (s : Nat) (w : World) (n1 : -9223372036854775808 ≤ no) (n2 : no ≤ 9223372036854775807) (i1 : -9223372036854775808 ≤ ix) (i2 : ix ≤ 9223372036854775807) (hs : s < 4294967296) :
    Calls Try.prog 31 #[.agg #[.int .i64 no, .int .i64 ix, .int .u32 (s : Int)]] w fun e w' => ∃ v, e = .returned (.tuple #[v, .int .i64 (wrErr no ix)]) ∧ Own w' w.heap.size v (wrBytes no ix s) ∧ Below w.heap.size w w' := by
  obtain ⟨w0, rfl⟩ : ∃ w0 : World, w0 = w := ⟨_, rfl⟩
  have hbx := Blk.new w0 [.int .i64 no, .int .i64 ix, .int .u32 (s : Int)] 46
  have hbel := below_alloc w0 (.cells [.int .i64 no, .int .i64 ix, .int .u32 (s : Int)].toArray 46 (0, 0))
  have c0 := hbx.cell 0 _ rfl
  have c1 := hbx.cell 1 _ rfl
  have c2 := hbx.cell 2 _ rfl
  cases e1 : wth no with
  | false =>
    have HE := Lib.hid (show wrErr no ix = 1 ∧ wrBytes no ix s = [] by unfold wrErr wrBytes; simp [e1])
    go_enter Try.func31, Try.ntmps31
    go_wp2_with (go_at_call 52; refine (tag_within _ _ n1 n2).mono ?_; rintro e w' ⟨rfl, rfl⟩)
    go_ret2
    exact ⟨_, by rw [HE.out.1]; rfl, by rw [HE.out.2]; exact Own.nil _ _, hbel⟩
  | true =>
    cases e2 : wth ix with
    | false =>
      have HE := Lib.hid (show wrErr no ix = 1 ∧ wrBytes no ix s = [] by unfold wrErr wrBytes; simp [e2])
      go_enter Try.func31, Try.ntmps31
      go_wp2_with (first
        | (go_at_call 52; (with_reducible refine (tag_within no _ n1 n2).mono ?_); rintro e w' ⟨rfl, rfl⟩)
        | (go_at_call 52; (with_reducible refine (tag_within ix _ i1 i2).mono ?_); rintro e w' ⟨rfl, rfl⟩))
      go_ret2
      exact ⟨_, by rw [HE.out.1]; rfl, by rw [HE.out.2]; exact Own.nil _ _, hbel⟩
    | true =>
      have HE := Lib.hid (show wrErr no ix = 0 ∧ wrBytes no ix s = tagAll no.toNat ix.toNat s by unfold wrErr wrBytes; simp [e1, e2])
      have b1 : 0 ≤ no ∧ no < 2147483648 := by unfold wth at e1; simpa using e1
      have b2 : 0 ≤ ix ∧ ix < 2147483648 := by unfold wth at e2; simpa using e2
      go_enter Try.func31, Try.ntmps31
      go_upto_region 3 with (first
        | (go_at_call 52; (with_reducible refine (tag_within no _ n1 n2).mono ?_); rintro e w' ⟨rfl, rfl⟩)
        | (go_at_call 52; (with_reducible refine (tag_within ix _ i1 i2).mono ?_); rintro e w' ⟨rfl, rfl⟩))
      clear e1 e2
      obtain ⟨a, rfl⟩ := Int.eq_ofNat_of_zero_le b1.1
      obtain ⟨b, rfl⟩ := Int.eq_ofNat_of_zero_le b2.1
      have u1 : IntKind.u64.wrap (a : Int) = (a : Int) := IntWalk.u64_in _ (by omega)
      have u2 : IntKind.u64.wrap (b : Int) = (b : Int) := IntWalk.u64_in _ (by omega)
      have u3 : IntKind.u64.wrap (s : Int) = (s : Int) := IntWalk.u64_in _ (by omega)
      have v1 : a < 18446744073709551616 := by omega
      have v2 : b < 18446744073709551616 := by omega
      have v3 : s < 18446744073709551616 := by omega
      clear n1 n2 i1 i2 b1 b2
      generalize w0.alloc (.cells [.int .i64 (a : Int), .int .i64 (b : Int), .int .u32 (s : Int)].toArray 46 (0, 0)) = w1 at *
      have hlt := hbx.lt
      have hC : Below w1.heap.size w1 w1.drew := (Below.refl _ _).drew
      go_region_held3 (fun w' => w'.cell? ⟨w0.heap.size, 0, none⟩ = some (.int .i64 (a : Int)) ∧ w'.cell? ⟨w0.heap.size, 1, none⟩ = some (.int .i64 (b : Int)) ∧ w'.cell? ⟨w0.heap.size, 2, none⟩ = some (.int .u32 (s : Int)))
        (exact ⟨(hC.cell (p := ⟨w0.heap.size, 0, none⟩) hlt).trans c0, (hC.cell (p := ⟨w0.heap.size, 1, none⟩) hlt).trans c1, (hC.cell (p := ⟨w0.heap.size, 2, none⟩) hlt).trans c2⟩)
        (first
          | (go_at_call 53; (with_reducible refine (tag_put4 none 0 0 [] a _ (Byts.nil _ _) rfl (by decide) v1).mono ?_); rintro e w2 ⟨v2, rfl, A2, c2', L2, rfl, HL2, l2, -, -, hr2, hb2⟩; have hC2 := hC.trans (hb2.mono hC.size); clear hC hb2; have hC := hC2; clear hC2)
          | (go_at_call 53; (with_reducible refine (tag_put4 A2 _ c2' L2 b _ hr2 rfl (by have := congrArg List.length HL2.out; rw [List.length_append, low_length] at this; simp at this; omega) v2).mono ?_); rintro e w3 ⟨v3', rfl, A3, c3', L3, rfl, HL3, l3, -, -, hr3, hb3⟩; have hC3 := hC.trans (hb3.mono hC.size); clear hC hb3; have hC := hC3; clear hC3)
          | (go_at_call 53; (with_reducible refine (tag_put4 A3 _ c3' L3 s _ hr3 rfl (by have h1 := congrArg List.length HL2.out; have h2 := congrArg List.length HL3.out; rw [List.length_append, low_length] at h1 h2; simp at h1; omega) v3).mono ?_); rintro e w4 ⟨v4', rfl, A4, c4', L4, rfl, HL4, l4, -, -, hr4, hb4⟩; have hC4 := hC.trans (hb4.mono hC.size); clear hC hb4; have hC := hC4; clear hC4))
      have h12 : L4.length = 12 := by
        have h1 := congrArg List.length HL2.out; have h2 := congrArg List.length HL3.out; have h3 := congrArg List.length HL4.out
        rw [List.length_append, low_length] at h1 h2 h3; simp at h1; omega
      have HLL := Lib.hid (show L4 = low a 4 ++ low b 4 ++ low s 4 by rw [HL4.out, HL3.out, HL2.out, List.nil_append])
      have h12' : L4.length ≤ 100 := by omega
      have hm : L4.length ≤ maxLen := by unfold maxLen; omega
      have hsl := sumN_lt L4
      have HSU := Lib.hid (show tagAll a b s = L4 ++ low (sumN L4) 4 by unfold tagAll; rw [HLL.out])
      have hs64 : sumN L4 < 18446744073709551616 := by omega
      have u4 : IntKind.u64.wrap (sumN L4 : Int) = (sumN L4 : Int) := IntWalk.u64_in _ (by omega)
      have hbelC := hbel.trans (hC.mono hbel.size)
      have hCs := hbelC.size
      clear h12 c0 c1 c2 u1 u2 u3 hbel hC
      go_wp2_with (first
        | (go_at_call 54; (with_reducible refine (sum_of _ _ _ L4 _ hr4 rfl hm).mono ?_); rintro e w' ⟨rfl, rfl⟩)
        | (go_at_call 53; (with_reducible refine (tag_put4 A4 _ c4' L4 (sumN L4) _ hr4 rfl h12' hs64).mono ?_); rintro e w5 ⟨v5', rfl, A5, c5', L5, rfl, HL5, l5, -, hown5, hr5, hb5⟩))
      go_ret2
      refine ⟨_, by rw [HE.out.1]; rfl, ?_, hbelC.trans (hb5.mono hCs)⟩
      rw [HE.out.2, show ((a : Int)).toNat = a from rfl, show ((b : Int)).toNat = b from rfl, HSU.out, ← HL5.out]
      exact hown5.mono hCs

set_option maxHeartbeats 1000000 in
theorem tag_of (no ix : Int) (A : Option Addr) (n c : Nat) (l : List UInt8) (w : World) (hb : Byts w A l) (hn : n = l.length) (hl : l.length ≤ maxLen) :
    Calls Try.prog 35 #[.int .i64 no, .int .i64 ix, .slice A n c] w fun e w' => e = .returned (.agg #[.int .i64 no, .int .i64 ix, .int .u32 (sumN l : Int)]) ∧ Below w.heap.size w w' := by
  subst hn
  have hs := sumN_lt l
  have H := Lib.hid (fun w' h => sum_of A l.length c l w' h rfl hl)
  go_enter Try.func35, Try.ntmps35
  go_wp2_with (go_at_call 54; refine (H.out _ (hb.alloc _)).mono ?_; rintro e w' ⟨rfl, rfl⟩)
  refine bodyPost_ret (v := .agg #[.int .i64 no, .int .i64 ix, .int .u32 (sumN l : Int)]) (by simp [results, Try.results35, go_sem]) rfl ⟨rfl, ?_⟩
  exact (Below.refl _ _).alloc (Nat.le_refl _) _

set_option maxHeartbeats 1000000 in
theorem rtag_put4 (A : Option Addr) (n c : Nat) (l : List UInt8) (v : Nat) (w : World) (hb : Byts w A l) (hn : n = l.length) (hl : l.length ≤ 100) (hv : v < 18446744073709551616) :
    Calls Try.prog 56 #[.slice A n c, .int .u64 (v : Int), .int .i64 4] w (Ret fun r w' => ∃ A' c' L, r = .slice A' L.length c' ∧ Hid (L = l ++ low v 4) ∧ L.length ≤ 104 ∧ (L.length ≤ c' ∧ c' ≤ maxLen) ∧ Own w' w.heap.size (.slice A' L.length c') L ∧ Byts w' A' L ∧ Below w.heap.size w w') := by
  refine (ref_put A n c l v 4 w hb hn (by omega) hv (by decide) (by decide)).mono ?_
  rintro e w' ⟨r, rfl, hown, hbel⟩
  have h4 : putN 4 = 4 := rfl
  rw [h4] at hown
  obtain ⟨A', c', rfl, hc, hr, -⟩ := hown.byts
  exact Ret.mk ⟨A', c', _, rfl, rfl, by rw [List.length_append, low_length]; omega, hc, hown, hr, hbel⟩

set_option maxHeartbeats 400000 in
theorem rtag_within (v : Int) (w : World) (h1 : -9223372036854775808 ≤ v) (h2 : v ≤ 9223372036854775807) : Calls Try.prog 55 #[.int .i64 v] w fun e w' => e = .returned (.bool (wth v)) ∧ w = w' := by
  by_cases h0 : 0 ≤ v
  · by_cases h3 : v < 2147483648
    · have e : wth v = true := by unfold wth; simp [h0, h3]
      rw [e]
      clear e
      have hx : v ≤ 2147483647 := by omega
      go_enter Try.func55, Try.ntmps55
      go_wp2_with fail
      go_ret
      exact ⟨by simp, rfl⟩
    · have e : wth v = false := by unfold wth; simp [h3]
      rw [e]
      clear e
      have hx : ¬ v ≤ 2147483647 := by omega
      go_enter Try.func55, Try.ntmps55
      go_wp2_with fail
      go_ret
      exact ⟨by simp, rfl⟩
  · have e : wth v = false := by unfold wth; simp [h0]
    rw [e]
    clear e
    go_enter Try.func55, Try.ntmps55
    go_wp2_with fail
    go_ret
    exact ⟨by simp, rfl⟩

set_option maxHeartbeats 4000000 in
theorem rtag_write (no ix : Int) (s : Nat) (w : World) (n1 : -9223372036854775808 ≤ no) (n2 : no ≤ 9223372036854775807) (i1 : -9223372036854775808 ≤ ix) (i2 : ix ≤ 9223372036854775807) (hs : s < 4294967296) :
    Calls Try.prog 32 #[.agg #[.int .i64 no, .int .i64 ix, .int .u32 (s : Int)]] w fun e w' => ∃ v, e = .returned (.tuple #[v, .int .i64 (wrErr no ix)]) ∧ Own w' w.heap.size v (wrBytes no ix s) ∧ Below w.heap.size w w' := by
  obtain ⟨w0, rfl⟩ : ∃ w0 : World, w0 = w := ⟨_, rfl⟩
  have hbx := Blk.new w0 [.int .i64 no, .int .i64 ix, .int .u32 (s : Int)] 46
  have hbel := below_alloc w0 (.cells [.int .i64 no, .int .i64 ix, .int .u32 (s : Int)].toArray 46 (0, 0))
  have c0 := hbx.cell 0 _ rfl
  have c1 := hbx.cell 1 _ rfl
  have c2 := hbx.cell 2 _ rfl
  cases e1 : wth no with
  | false =>
    have HE := Lib.hid (show wrErr no ix = 1 ∧ wrBytes no ix s = [] by unfold wrErr wrBytes; simp [e1])
    go_enter Try.func32, Try.ntmps32
    go_wp2_with (go_at_call 55; refine (rtag_within _ _ n1 n2).mono ?_; rintro e w' ⟨rfl, rfl⟩)
    go_ret2
    exact ⟨_, by rw [HE.out.1]; rfl, by rw [HE.out.2]; exact Own.nil _ _, hbel⟩
  | true =>
    cases e2 : wth ix with
    | false =>
      have HE := Lib.hid (show wrErr no ix = 1 ∧ wrBytes no ix s = [] by unfold wrErr wrBytes; simp [e2])
      go_enter Try.func32, Try.ntmps32
      go_wp2_with (first
        | (go_at_call 55; (with_reducible refine (rtag_within no _ n1 n2).mono ?_); rintro e w' ⟨rfl, rfl⟩)
        | (go_at_call 55; (with_reducible refine (rtag_within ix _ i1 i2).mono ?_); rintro e w' ⟨rfl, rfl⟩))
      go_ret2
      exact ⟨_, by rw [HE.out.1]; rfl, by rw [HE.out.2]; exact Own.nil _ _, hbel⟩
    | true =>
      have HE := Lib.hid (show wrErr no ix = 0 ∧ wrBytes no ix s = tagAll no.toNat ix.toNat s by unfold wrErr wrBytes; simp [e1, e2])
      have b1 : 0 ≤ no ∧ no < 2147483648 := by unfold wth at e1; simpa using e1
      have b2 : 0 ≤ ix ∧ ix < 2147483648 := by unfold wth at e2; simpa using e2
      go_enter Try.func32, Try.ntmps32
      go_upto_region 3 with (first
        | (go_at_call 55; (with_reducible refine (rtag_within no _ n1 n2).mono ?_); rintro e w' ⟨rfl, rfl⟩)
        | (go_at_call 55; (with_reducible refine (rtag_within ix _ i1 i2).mono ?_); rintro e w' ⟨rfl, rfl⟩))
      clear e1 e2
      obtain ⟨a, rfl⟩ := Int.eq_ofNat_of_zero_le b1.1
      obtain ⟨b, rfl⟩ := Int.eq_ofNat_of_zero_le b2.1
      have u1 : IntKind.u64.wrap (a : Int) = (a : Int) := IntWalk.u64_in _ (by omega)
      have u2 : IntKind.u64.wrap (b : Int) = (b : Int) := IntWalk.u64_in _ (by omega)
      have u3 : IntKind.u64.wrap (s : Int) = (s : Int) := IntWalk.u64_in _ (by omega)
      have v1 : a < 18446744073709551616 := by omega
      have v2 : b < 18446744073709551616 := by omega
      have v3 : s < 18446744073709551616 := by omega
      clear n1 n2 i1 i2 b1 b2
      generalize w0.alloc (.cells [.int .i64 (a : Int), .int .i64 (b : Int), .int .u32 (s : Int)].toArray 46 (0, 0)) = w1 at *
      have hlt := hbx.lt
      have hC : Below w1.heap.size w1 w1.drew := (Below.refl _ _).drew
      go_region_held3 (fun w' => w'.cell? ⟨w0.heap.size, 0, none⟩ = some (.int .i64 (a : Int)) ∧ w'.cell? ⟨w0.heap.size, 1, none⟩ = some (.int .i64 (b : Int)) ∧ w'.cell? ⟨w0.heap.size, 2, none⟩ = some (.int .u32 (s : Int)))
        (exact ⟨(hC.cell (p := ⟨w0.heap.size, 0, none⟩) hlt).trans c0, (hC.cell (p := ⟨w0.heap.size, 1, none⟩) hlt).trans c1, (hC.cell (p := ⟨w0.heap.size, 2, none⟩) hlt).trans c2⟩)
        (first
          | (go_at_call 56; (with_reducible refine (rtag_put4 none 0 0 [] a _ (Byts.nil _ _) rfl (by decide) v1).mono ?_); rintro e w2 ⟨v2, rfl, A2, c2', L2, rfl, HL2, l2, -, -, hr2, hb2⟩; have hC2 := hC.trans (hb2.mono hC.size); clear hC hb2; have hC := hC2; clear hC2)
          | (go_at_call 56; (with_reducible refine (rtag_put4 A2 _ c2' L2 b _ hr2 rfl (by have := congrArg List.length HL2.out; rw [List.length_append, low_length] at this; simp at this; omega) v2).mono ?_); rintro e w3 ⟨v3', rfl, A3, c3', L3, rfl, HL3, l3, -, -, hr3, hb3⟩; have hC3 := hC.trans (hb3.mono hC.size); clear hC hb3; have hC := hC3; clear hC3)
          | (go_at_call 56; (with_reducible refine (rtag_put4 A3 _ c3' L3 s _ hr3 rfl (by have h1 := congrArg List.length HL2.out; have h2 := congrArg List.length HL3.out; rw [List.length_append, low_length] at h1 h2; simp at h1; omega) v3).mono ?_); rintro e w4 ⟨v4', rfl, A4, c4', L4, rfl, HL4, l4, -, -, hr4, hb4⟩; have hC4 := hC.trans (hb4.mono hC.size); clear hC hb4; have hC := hC4; clear hC4))
      have h12 : L4.length = 12 := by
        have h1 := congrArg List.length HL2.out; have h2 := congrArg List.length HL3.out; have h3 := congrArg List.length HL4.out
        rw [List.length_append, low_length] at h1 h2 h3; simp at h1; omega
      have HLL := Lib.hid (show L4 = low a 4 ++ low b 4 ++ low s 4 by rw [HL4.out, HL3.out, HL2.out, List.nil_append])
      have h12' : L4.length ≤ 100 := by omega
      have hm : L4.length ≤ maxLen := by unfold maxLen; omega
      have hsl := sumN_lt L4
      have HSU := Lib.hid (show tagAll a b s = L4 ++ low (sumN L4) 4 by unfold tagAll; rw [HLL.out])
      have hs64 : sumN L4 < 18446744073709551616 := by omega
      have u4 : IntKind.u64.wrap (sumN L4 : Int) = (sumN L4 : Int) := IntWalk.u64_in _ (by omega)
      have hbelC := hbel.trans (hC.mono hbel.size)
      have hCs := hbelC.size
      clear h12 c0 c1 c2 u1 u2 u3 hbel hC
      go_wp2_with (first
        | (go_at_call 38; (with_reducible refine (ref_sum _ _ _ L4 _ hr4 rfl hm).mono ?_); rintro e w' ⟨rfl, rfl⟩)
        | (go_at_call 56; (with_reducible refine (rtag_put4 A4 _ c4' L4 (sumN L4) _ hr4 rfl h12' hs64).mono ?_); rintro e w5 ⟨v5', rfl, A5, c5', L5, rfl, HL5, l5, -, hown5, hr5, hb5⟩))
      go_ret2
      refine ⟨_, by rw [HE.out.1]; rfl, ?_, hbelC.trans (hb5.mono hCs)⟩
      rw [HE.out.2, show ((a : Int)).toNat = a from rfl, show ((b : Int)).toNat = b from rfl, HSU.out, ← HL5.out]
      exact hown5.mono hCs

set_option maxHeartbeats 1000000 in
theorem rtag_of (no ix : Int) (A : Option Addr) (n c : Nat) (l : List UInt8) (w : World) (hb : Byts w A l) (hn : n = l.length) (hl : l.length ≤ maxLen) :
    Calls Try.prog 36 #[.int .i64 no, .int .i64 ix, .slice A n c] w fun e w' => e = .returned (.agg #[.int .i64 no, .int .i64 ix, .int .u32 (sumN l : Int)]) ∧ Below w.heap.size w w' := by
  subst hn
  have hs := sumN_lt l
  have H := Lib.hid (fun w' h => ref_sum A l.length c l w' h rfl hl)
  go_enter Try.func36, Try.ntmps36
  go_wp2_with (go_at_call 38; refine (H.out _ (hb.alloc _)).mono ?_; rintro e w' ⟨rfl, rfl⟩)
  refine bodyPost_ret (v := .agg #[.int .i64 no, .int .i64 ix, .int .u32 (sumN l : Int)]) (by simp [results, Try.results36, go_sem]) rfl ⟨rfl, ?_⟩
  exact (Below.refl _ _).alloc (Nat.le_refl _) _

end Go.Proofs.Ytdieeleaaejfhaa
