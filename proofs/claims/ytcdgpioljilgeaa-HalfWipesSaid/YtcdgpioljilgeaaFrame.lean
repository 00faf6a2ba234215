/- The contracts of package frame: a record's body, the record at the beginning. -/
import Derived.Test.YtcdgpioljilgeaaFrameP
import Derived.Test.YtcdgpioljilgeaaClone
set_option linter.unusedVariables false
set_option maxRecDepth 100000
set_option linter.unusedSimpArgs false
namespace Go.Proofs.Ytcdgpioljilgeaa
open Go.RowKit

/-! ### contracts in the form that is wanted here -/

theorem put_as (A : Option Addr) (n c : Nat) (l : List UInt8) (v : Nat) (k : Int) (w : World) (hb : Byts w A l) (hn : n = l.length) (hl : l.length ≤ 140737488355000) (hv : v < 18446744073709551616) (hk1 : -9223372036854775808 ≤ k) (hk2 : k ≤ 9223372036854775807)
    {L : List UInt8} {m : Nat} (hL : l ++ low v (putN k) = L) (hm : L.length = m) :
    Calls Try.prog 73 #[.slice A n c, .int .u64 (v : Int), .int .i64 k] w (Ret fun r w' => ∃ A' c', r = .slice A' m c' ∧ (m ≤ c' ∧ c' ≤ maxLen) ∧ Own w' w.heap.size (.slice A' m c') L ∧ Byts w' A' L ∧ (∀ y, A' = some y → w.heap.size ≤ y.block) ∧ Below w.heap.size w w') := by
  refine (codec_put A n c l v k w hb hn hl hv hk1 hk2).mono ?_
  rintro e w' ⟨r, rfl, hown, hbel⟩
  rw [hL] at hown
  subst hm
  obtain ⟨A', c', rfl, hc, hr, hA⟩ := hown.byts
  exact Ret.mk ⟨A', c', rfl, hc, hown, hr, fun y e => (hA y e).1, hbel⟩

theorem concat_as (A : Option Addr) (n c : Nat) (xs : List (List UInt8)) (w : World) (hr : Rows w A xs) (hn : n = xs.length) (hxs : xs.length ≤ 140737488355328) {L : List UInt8} {m : Nat} (hL : xs.flatten = L) (hm : L.length = m) (hlen : m ≤ 140737488355328) :
    Calls Try.prog 74 #[.slice A n c] w (Ret fun r w' => ∃ A' c', r = .slice A' m c' ∧ (m ≤ c' ∧ c' ≤ maxLen) ∧ Own w' w.heap.size (.slice A' m c') L ∧ Byts w' A' L ∧ (∀ y, A' = some y → w.heap.size ≤ y.block) ∧ Below w.heap.size w w') := by
  subst hm hL
  refine (concat_byts A n c xs w hr hn hxs hlen).mono ?_
  rintro e w' ⟨r, rfl, hown, hbel⟩
  obtain ⟨A', c', rfl, hc, hr, hA⟩ := hown.byts
  exact Ret.mk ⟨A', c', rfl, hc, hown, hr, fun y e => (hA y e).1, hbel⟩

theorem clone_as (A : Option Addr) (n c : Nat) (l : List UInt8) (w : World) (hb : Byts w A l) (hn : l.length = n) (hl : n ≤ 140737488355328) :
    Calls Try.prog 65 #[.slice A n c] w (Ret fun r w' => ∃ A' c', r = .slice A' n c' ∧ (n ≤ c' ∧ c' ≤ maxLen) ∧ Own w' w.heap.size (.slice A' n c') l ∧ Byts w' A' l ∧ (∀ y, A' = some y → w.heap.size ≤ y.block) ∧ Below w.heap.size w w') := by
  subst hn
  refine (clone_byts A _ c l w hb rfl hl).mono ?_
  rintro e w' ⟨r, rfl, hown, hbel⟩
  obtain ⟨A', c', rfl, hc, hr, hA⟩ := hown.byts
  exact Ret.mk ⟨A', c', rfl, hc, hown, hr, fun y e => (hA y e).1, hbel⟩

theorem rows2 {w : World} {B1 B2 : Option Addr} {l1 l2 : List UInt8} {n1 n2 : Nat} (c1 c2 : Nat) (h1 : Byts w B1 l1) (hn1 : l1.length = n1) (h2 : Byts w B2 l2) (hn2 : l2.length = n2) (q : Nat × Nat) :
    Rows (w.alloc (.cells #[.slice B1 n1 c1, .slice B2 n2 c2] 24 q)) (some ⟨w.heap.size, 0, none⟩) [l1, l2] := by
  subst hn1 hn2
  exact rows_two c1 c2 h1 h2 q

set_option maxHeartbeats 400000 in
theorem frame_size (n : Int) (w : World) (h1 : -9223372036854775808 ≤ n) (h2 : n + 7 ≤ 9223372036854775807) : Calls Try.prog 49 #[.int .i64 n] w fun e w' => e = .returned (.int .i64 (n + 7)) ∧ w = w' := by
  go_enter Try.func49, Try.ntmps49
  go_wp2_with fail
  go_ret
  exact ⟨rfl, rfl⟩

set_option maxHeartbeats 400000 in
theorem frame_body_big (A : Option Addr) (n c : Nat) (w : World) (h : 65000 < n) (hn : n ≤ 9223372036854775807) :
    Calls Try.prog 44 #[.slice A n c] w fun e w' => e = .returned (.tuple #[.slice none 0 0, .int .i64 21]) ∧ w = w' := by
  go_enter Try.func44, Try.ntmps44
  go_wp2_with fail
  go_ret2
  exact ⟨rfl, rfl⟩

set_option maxHeartbeats 2000000 in
theorem frame_body (A : Option Addr) (n c : Nat) (b : List UInt8) (w : World) (hb : Byts w A b) (hn : b.length = n) (h : n ≤ 65000) :
    Calls Try.prog 44 #[.slice A n c] w fun e w' => ∃ A' c', e = .returned (.tuple #[.slice A' (n + 6) c', .int .i64 0]) ∧ (n + 6 ≤ c' ∧ c' ≤ maxLen) ∧ Own w' w.heap.size (.slice A' (n + 6) c') (bodyL b) ∧ Byts w' A' (bodyL b) ∧ (∀ y, A' = some y → w.heap.size ≤ y.block) ∧ Below w.heap.size w w' := by
  obtain ⟨w0, rfl⟩ : ∃ w0 : World, w0 = w := ⟨_, rfl⟩
  have hs0 : w0.heap.size ≤ w0.heap.size := Nat.le_refl _
  have HN := Lib.hid hn
  have u1 : IntKind.u64.wrap (n : Int) = (n : Int) := IntWalk.u64_in _ (by omega)
  have hL1 : [] ++ low n (putN 2) = low n 2 := rfl
  have hm1 : (low n 2).length = 2 := low_length _ _
  have hm2 : [low n 2, b].flatten.length = n + 2 := by simp [low_length, hn]; omega
  have hs := sumN_lt (low n 2 ++ b)
  have hf2 : [low n 2, b].flatten = low n 2 ++ b := by simp
  have hL3 : low n 2 ++ low (sumN (low n 2 ++ b)) (putN 4) = low n 2 ++ low (sumN (low n 2 ++ b)) 4 := rfl
  have hm3 : (low n 2 ++ low (sumN (low n 2 ++ b)) 4).length = 6 := by simp only [List.length_append, low_length]
  have hf4 : [low n 2 ++ low (sumN (low n 2 ++ b)) 4, b].flatten = bodyL b := by unfold bodyL; rw [hn]; simp
  have hm4 : (bodyL b).length = n + 6 := by rw [bodyL_length, hn]
  rw [hf2] at hm2
  obtain ⟨l2, hl2⟩ : ∃ l2, low n 2 ++ b = l2 := ⟨_, rfl⟩
  rw [hl2] at hm2 hs hf2 hL3 hm3 hf4
  obtain ⟨sm, hsm⟩ : ∃ sm, sumN l2 = sm := ⟨_, rfl⟩
  rw [hsm] at hs hL3 hm3 hf4
  obtain ⟨l3, hl3⟩ : ∃ l3, low n 2 ++ low sm 4 = l3 := ⟨_, rfl⟩
  rw [hl3] at hL3 hm3 hf4
  obtain ⟨l1, hl1⟩ : ∃ l1, low n 2 = l1 := ⟨_, rfl⟩
  rw [hl1] at hL1 hm1 hf2 hL3
  have u2 : IntKind.u64.wrap (sm : Int) = (sm : Int) := IntWalk.u64_in _ (by omega)
  have H1 := Lib.hid (And.intro hL1 hm1)
  have H2 := Lib.hid (And.intro hf2 hm2)
  have H3 := Lib.hid (And.intro hL3 hm3)
  have H4 := Lib.hid (And.intro hf4 hm4)
  have HS := Lib.hid hsm
  have hl2n : l2.length ≤ maxLen := by unfold maxLen; omega
  clear hn hL1 hm1 hm2 hf2 hL3 hm3 hf4 hm4 hl1 hl2 hl3 hsm
  go_enter Try.func44, Try.ntmps44
  go_upto_region 4 with (go_at_call 73; refine (put_as none 0 0 [] n 2 _ (Byts.nil _ _) rfl (by decide) (by omega) (by decide) (by decide) H1.out.1 H1.out.2).mono ?_; rintro e w1 ⟨r, rfl, A1, c1, rfl, hc1, -, hy1, -, hb1⟩)
  have hb1n := hb.below hb1
  go_wp2_with fail
  refine (concat_as _ 2 2 [l1, b] _ (rows2 c1 c hy1 H1.out.2 hb1n HN.out (0, 0)) rfl (by simp) H2.out.1 H2.out.2 (by omega)).mono ?_
  rintro e w2 ⟨r, rfl, A2, c2, rfl, hc2, -, hy2, -, hb2⟩
  have hb2' := (below_alloc w1 _).trans (hb2.mono (by simp))
  have hy1b := hy1.below hb2'
  have hb20 := hb1.trans (hb2'.mono hb1.size)
  clear hb1 hb2 hb2' hy1 hb1n
  go_wp2_with (go_at_call 75; refine (sum_of _ _ _ l2 _ hy2 H2.out.2.symm hl2n).mono ?_; rintro e w' ⟨rfl, rfl⟩; rw [HS.out])
  refine (put_as A1 2 c1 l1 sm 4 _ hy1b H1.out.2.symm (by have := H1.out.2; omega) (by omega) (by decide) (by decide) H3.out.1 H3.out.2).mono ?_
  rintro e w3 ⟨r, rfl, A3, c3, rfl, hc3, -, hy3, -, hb3⟩
  have hb30 := hb20.trans (hb3.mono hb20.size)
  have hb3n := hb.below hb30
  clear hb20 hb3 hy2 hy1b
  go_wp2_with fail
  refine (concat_as _ 2 2 [l3, b] _ (rows2 c3 c hy3 H3.out.2 hb3n HN.out (0, 0)) rfl (by simp) H4.out.1 H4.out.2 (by omega)).mono ?_
  rintro e w4 ⟨r, rfl, A4, c4, rfl, hc4, hown4, hy4, hA4, hb4⟩
  have z3 := hb30.size
  go_wp2_with fail
  go_ret2
  have z4 : w0.heap.size ≤ w3.heap.size + 1 := by omega
  refine ⟨A4, c4, rfl, hc4, hown4.mono (by simp; omega), hy4, fun y e => ?_, (hb30.alloc z3 _).trans (hb4.mono (by simp; omega))⟩
  have := hA4 y e
  simp at this
  omega

/-! ### the record at the beginning -/

theorem getR_two (b : List UInt8) (h : 2 ≤ b.length) : getR b 0 2 = (num (b.take 2), 0) := by
  unfold getR
  rw [if_neg (by omega), if_neg (by omega)]
  rfl
theorem getR_short (b : List UInt8) (h : b.length < 2) : getR b 0 2 = (0, 3) := by
  unfold getR
  rw [if_neg (by omega), if_pos (by omega)]
theorem getR_sum (b : List UInt8) (h : 6 ≤ b.length) : getR b 2 4 = (num ((b.drop 2).take 4), 0) := by
  unfold getR
  rw [if_neg (by omega), if_neg (by omega)]
  have : (b.take ((2 : Int).toNat + (4 : Int).toNat)).drop (2 : Int).toNat = (b.drop 2).take 4 := by
    show (b.take 6).drop 2 = _
    rw [List.drop_take]
  rw [this]

theorem nextF_none1 {b : List UInt8} (h : b.length < 2 ∨ 65000 < num (b.take 2) ∨ b.length < num (b.take 2) + 7) : nextF b = none := by
  unfold nextF
  rw [if_neg (by omega)]

set_option maxHeartbeats 2000000 in
theorem frame_next_none1 (A : Option Addr) (n c : Nat) (b : List UInt8) (w : World) (hb : Byts w A b) (hn : b.length = n) (hc : n ≤ c) (hl : n ≤ 140737488355000) (h : n < 2 ∨ 65000 < num (b.take 2) ∨ n < num (b.take 2) + 7) :
    Calls Try.prog 78 #[.slice A n c] w fun e w' => e = .returned (.tuple #[.slice none 0 0, .bool false]) ∧ w' = w := by
  have HG := Lib.hid (codec_get A n c b 0 2 w hb hn.symm (by omega) (by omega) (by decide) (by decide) (by decide) (by decide))
  have hm16 := num_lt (b.take 2)
  have hnum : num (b.take 2) < 65536 := by
    have h2 : (b.take 2).length ≤ 2 := List.length_take_le _ _
    have : 2 ^ (8 * (b.take 2).length) ≤ 2 ^ 16 := Nat.pow_le_pow_right (by decide) (by omega)
    omega
  clear hm16
  by_cases h1 : n < 2
  · have HR := Lib.hid (getR_short b (by omega))
    go_enter Try.func78, Try.ntmps78
    go_wp2_with (go_at_call 88; refine HG.out.mono ?_; rintro e w' ⟨rfl, rfl⟩; rw [HR.out])
    go_ret2
    exact ⟨rfl, rfl⟩
  · have HR := Lib.hid (getR_two b (by omega))
    obtain ⟨m, hm⟩ : ∃ m, num (b.take 2) = m := ⟨_, rfl⟩
    rw [hm] at h HR hnum
    clear hm
    by_cases h2 : 65000 < m
    · go_enter Try.func78, Try.ntmps78
      go_wp2_with (go_at_call 88; refine HG.out.mono ?_; rintro e w' ⟨rfl, rfl⟩; rw [HR.out])
      go_ret2
      exact ⟨rfl, rfl⟩
    · have h3 : n < m + 7 := by omega
      have hi : IntKind.i64.wrap (m : Int) = (m : Int) := IntWalk.i64_in _ (by omega)
      have h3i : (n : Int) < (m : Int) + 7 := by omega
      clear h
      go_enter Try.func78, Try.ntmps78
      go_wp2_with (first
        | (go_at_call 88; refine HG.out.mono ?_; rintro e w' ⟨rfl, rfl⟩; rw [HR.out])
        | (go_at_call 49; refine (frame_size (m : Int) _ (by omega) (by omega)).mono ?_; rintro e w' ⟨rfl, rfl⟩))
      go_ret2
      exact ⟨rfl, rfl⟩

set_option maxHeartbeats 4000000 in
theorem frame_next (A : Option Addr) (n c : Nat) (b : List UInt8) (w : World) (hb : Byts w A b) (hn : b.length = n) (hc : n ≤ c) (hl : n ≤ 140737488355000) :
    Calls Try.prog 78 #[.slice A n c] w fun e w' => ∃ A' k c', e = .returned (.tuple #[.slice A' k c', .bool (nextF b).isSome]) ∧ (k ≤ c' ∧ c' ≤ maxLen) ∧ ((nextF b).getD []).length = k ∧ Byts w' A' ((nextF b).getD []) ∧ (∀ y, A' = some y → w.heap.size ≤ y.block) ∧ Below w.heap.size w w' := by
  by_cases h : n < 2 ∨ 65000 < num (b.take 2) ∨ n < num (b.take 2) + 7
  · refine (frame_next_none1 A n c b w hb hn hc hl h).mono ?_
    rintro e w' ⟨rfl, rfl⟩
    rw [nextF_none1 (by omega)]
    exact ⟨none, 0, 0, rfl, ⟨Nat.le_refl _, Nat.zero_le _⟩, rfl, Byts.nil _ _, (fun y e => by cases e), Below.refl _ _⟩
  obtain ⟨w0, rfl⟩ : ∃ w0 : World, w0 = w := ⟨_, rfl⟩
  obtain ⟨m, hm⟩ : ∃ m, num (b.take 2) = m := ⟨_, rfl⟩
  have HG := Lib.hid (codec_get A n c b 0 2 w0 hb hn.symm (by omega) (by omega) (by decide) (by decide) (by decide) (by decide))
  have HG2 := Lib.hid (codec_get A n c b 2 4 w0 hb hn.symm (by omega) (by omega) (by decide) (by decide) (by decide) (by decide))
  have hR1 := getR_two b (by omega)
  have hR2 := getR_sum b (by omega)
  have hNF : nextF b = if sumN (b.take 2 ++ (b.drop 6).take m) = num ((b.drop 2).take 4) ∧ b.getD (m + 6) 0 = 0 then some ((b.drop 6).take m) else none := by
    unfold nextF
    rw [hm]
    by_cases hq : sumN (b.take 2 ++ (b.drop 6).take m) = num ((b.drop 2).take 4) ∧ b.getD (m + 6) 0 = 0
    · rw [if_pos hq, if_pos ⟨by omega, by omega, by omega, hq⟩]
    · rw [if_neg hq, if_neg (fun h => hq ⟨h.2.2.2.1, h.2.2.2.2⟩)]
  rw [hm] at hR1 h
  have hm1 : m ≤ 65000 := by omega
  have hm2 : m + 7 ≤ n := by omega
  have hs4 : num ((b.drop 2).take 4) < 4294967296 := by
    have h1 := num_lt ((b.drop 2).take 4)
    have h2 : ((b.drop 2).take 4).length ≤ 4 := List.length_take_le _ _
    have : 2 ^ (8 * ((b.drop 2).take 4).length) ≤ 2 ^ 32 := Nat.pow_le_pow_right (by decide) (by omega)
    omega
  obtain ⟨s, hs⟩ : ∃ s, num ((b.drop 2).take 4) = s := ⟨_, rfl⟩
  rw [hs] at hR2 hNF hs4
  have hxl : ((b.drop 6).take m).length = m := by rw [List.length_take, List.length_drop]; omega
  have hsx : (b.take (m + 6)).drop 6 = (b.drop 6).take m := by rw [List.drop_take]; congr 1
  have hhl : (b.take 2).length = 2 := by rw [List.length_take]; omega
  obtain ⟨x, hx⟩ : ∃ x, (b.drop 6).take m = x := ⟨_, rfl⟩
  rw [hx] at hxl hsx hNF
  obtain ⟨hd, hhd⟩ : ∃ hd, b.take 2 = hd := ⟨_, rfl⟩
  rw [hhd] at hhl hNF
  have hdt : (b.take 2).drop 0 = hd := by rw [List.drop_zero, hhd]
  have hf : [hd, x].flatten = hd ++ x := by simp
  have hfl : (hd ++ x).length = m + 2 := by rw [List.length_append]; omega
  obtain ⟨l2, hl2⟩ : ∃ l2, hd ++ x = l2 := ⟨_, rfl⟩
  rw [hl2] at hf hfl hNF
  obtain ⟨fb, hfb⟩ : ∃ fb, b[m + 6]? = some fb := ⟨_, List.getElem?_eq_getElem (by omega)⟩
  have hfg : b.getD (m + 6) 0 = fb := by rw [List.getD_eq_getElem?_getD, hfb]; rfl
  rw [hfg] at hNF
  have HNF := Lib.hid hNF
  have HR1 := Lib.hid hR1
  have HR2 := Lib.hid hR2
  have HXL := Lib.hid hxl
  have HSX := Lib.hid hsx
  have HHL := Lib.hid hhl
  have HDT := Lib.hid hdt
  have HF := Lib.hid (And.intro hf hfl)
  have HN := Lib.hid hn
  have HFB := Lib.hid hfb
  have hl2n : l2.length ≤ maxLen := by unfold maxLen; omega
  have hi1 : IntKind.i64.wrap (m : Int) = (m : Int) := IntWalk.i64_in _ (by omega)
  have hi2 : IntKind.u32.wrap (s : Int) = (s : Int) := by rw [IntKind.wrap_u32]; omega
  have h3i : ¬ (n : Int) < (m : Int) + 7 := by omega
  have hw6 : (m : Int) + 7 - 1 = (m : Int) + 6 := by omega
  clear hNF hR1 hR2 hxl hsx hhl hdt hf hfl hn hfb hfg hl2 hhd hx hs hm h
  go_enter Try.func78, Try.ntmps78
  go_upto_region 5 with (first
    | (go_at_call 88; refine HG.out.mono ?_; rintro e w' ⟨rfl, rfl⟩; rw [HR1.out])
    | (go_at_call 49; refine (frame_size (m : Int) _ (by omega) (by omega)).mono ?_; rintro e w' ⟨rfl, rfl⟩))
  go_upto_region 6 with (go_at_call 88; refine HG2.out.mono ?_; rintro e w' ⟨rfl, rfl⟩; rw [HR2.out])
  obtain ⟨w0, rfl⟩ : ∃ w0 : World, w0 = w' := ⟨_, rfl⟩
  clear HG HG2 HR1 HR2
  go_upto_region 7 with (refine wpList_wanted (by rfl) fun K hK => wp_slice_byts _ _ _ rfl 6 (m + 6) rfl (Or.inr ⟨_, _, rfl, rfl⟩) (Or.inr ⟨_, _, rfl, by first | rfl | (rw [Int.natCast_add]; rfl)⟩) (by omega) (by omega) ?_; intro A9 e1 e2 e3; refine hK _ _ ?_; clear hK K)
  have hx9 := e1 w0 b hb (by have := HN.out; omega) (by have := HN.out; omega)
  rw [HSX.out] at hx9
  clear e1 e2 e3
  go_wp2_with (refine wpList_wanted (by rfl) fun K hK => wp_slice_byts _ _ _ rfl 0 2 rfl (Or.inl ⟨rfl, rfl⟩) (Or.inr ⟨_, _, rfl, rfl⟩) (by omega) (by omega) ?_; intro A8 e1 e2 e3; refine hK _ _ ?_; clear hK K)
  have hx8 := e1 w0 b hb (by have := HN.out; omega) (by have := HN.out; omega)
  rw [HDT.out] at hx8
  clear e1 e2 e3
  refine (concat_as _ 2 2 [hd, x] _ (rows2 _ _ hx8 HHL.out hx9 HXL.out (0, 0)) rfl (by simp) HF.out.1 HF.out.2 (by omega)).mono ?_
  rintro e w1 ⟨r, rfl, A2, c2, rfl, hc2, -, hy2, -, hb1⟩
  have hb1' := (below_alloc w0 _).trans (hb1.mono (by simp))
  have hbn := hb.below hb1'
  have hx9b := hx9.below hb1'
  obtain ⟨bb, off, rfl, hcf⟩ := hbn.at (k := m + 6) (by have := HN.out; omega)
  have hfv : b[m + 6]'(by have := HN.out; omega) = fb := by
    have h1 := HFB.out
    rw [List.getElem?_eq_getElem (by have := HN.out; omega)] at h1
    exact Option.some.inj h1
  rw [hfv] at hcf
  clear hfv hb hx9 hx8 hb1
  by_cases hsum : sumN l2 = s
  · have HSM := Lib.hid (show ((sumN l2 : Int) == (s : Int)) = true by rw [hsum]; simp)
    have HSE := Lib.hid hsum
    clear hsum
    by_cases hfl : fb = 0
    · have HFE := Lib.hid hfl
      have hf0 : (fb.toNat : Int) = 0 := by rw [hfl]; rfl
      rw [hf0] at hcf
      clear hfl hf0
      go_upto_region 9 with (go_at_call 89; refine (sum_ok _ _ _ l2 (s : Int) _ hy2 HF.out.2.symm hl2n).mono ?_; rintro e w' ⟨rfl, rfl⟩; rw [HSM.out])
      go_wp2_with (go_at_call 65; refine (clone_as A9 m _ x _ hx9b HXL.out (by omega)).mono ?_; rintro e w2 ⟨r, rfl, A3, c3, rfl, hc3, -, hy3, hA3, hb2⟩)
      go_ret2
      have hz := hb1'.size
      rw [HNF.out, if_pos ⟨HSE.out, HFE.out⟩]
      exact ⟨A3, m, c3, rfl, hc3, HXL.out, hy3, fun y e => Nat.le_trans hz (hA3 y e), hb1'.trans (hb2.mono hz)⟩
    · have HFE := Lib.hid hfl
      have hf0 : ¬ (fb.toNat : Int) = 0 := fun e => hfl (UInt8.toNat_inj.1 (by simpa using e))
      have hf1 : ((fb.toNat : Int) == 0) = false := beq_eq_false_iff_ne.2 hf0
      generalize fb.toNat = fn at *
      clear hfl
      go_wp2_with (go_at_call 89; refine (sum_ok _ _ _ l2 (s : Int) _ hy2 HF.out.2.symm hl2n).mono ?_; rintro e w' ⟨rfl, rfl⟩; rw [HSM.out])
      go_ret2
      rw [HNF.out, if_neg (fun h => HFE.out h.2)]
      exact ⟨none, 0, 0, rfl, ⟨Nat.le_refl _, Nat.zero_le _⟩, rfl, Byts.nil _ _, (fun y e => by cases e), hb1'⟩
  · have HSM := Lib.hid (show ((sumN l2 : Int) == (s : Int)) = false from beq_eq_false_iff_ne.2 (fun e => hsum (by exact_mod_cast e)))
    have HSE := Lib.hid hsum
    clear hsum
    go_wp2_with (go_at_call 89; refine (sum_ok _ _ _ l2 (s : Int) _ hy2 HF.out.2.symm hl2n).mono ?_; rintro e w' ⟨rfl, rfl⟩; rw [HSM.out])
    go_ret2
    rw [HNF.out, if_neg (fun h => HSE.out h.1)]
    exact ⟨none, 0, 0, rfl, ⟨Nat.le_refl _, Nat.zero_le _⟩, rfl, Byts.nil _ _, (fun y e => by cases e), hb1'⟩
end Go.Proofs.Ytcdgpioljilgeaa
