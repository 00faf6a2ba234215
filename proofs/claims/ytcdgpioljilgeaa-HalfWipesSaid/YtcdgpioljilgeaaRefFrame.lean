/- The document's records. -/
import Derived.Test.YtcdgpioljilgeaaPutR
import Derived.Test.YtcdgpioljilgeaaScan
import Derived.Test.YtcdgpioljilgeaaMake
import Derived.Deep.RegionHeld3
set_option linter.unusedVariables false
set_option maxRecDepth 100000
set_option linter.unusedSimpArgs false
namespace Go.Proofs.Ytcdgpioljilgeaa
open Go.RowKit

theorem rput_as (A : Option Addr) (n c : Nat) (l : List UInt8) (v : Nat) (k : Int) (w : World) (hb : Byts w A l) (hn : n = l.length) (hl : l.length ≤ 140737488355000) (hv : v < 18446744073709551616) (hk1 : -9223372036854775808 ≤ k) (hk2 : k ≤ 9223372036854775807)
    {L : List UInt8} {m : Nat} (hL : l ++ low v (putN k) = L) (hm : L.length = m) :
    Calls Try.prog 76 #[.slice A n c, .int .u64 (v : Int), .int .i64 k] w (Ret fun r w' => ∃ A' c', r = .slice A' m c' ∧ (m ≤ c' ∧ c' ≤ maxLen) ∧ Own w' w.heap.size (.slice A' m c') L ∧ Byts w' A' L ∧ (∀ y, A' = some y → w.heap.size ≤ y.block) ∧ Below w.heap.size w w') := by
  refine (ref_put A n c l v k w hb hn hl hv hk1 hk2).mono ?_
  rintro e w' ⟨r, rfl, hown, hbel⟩
  rw [hL] at hown
  subst hm
  obtain ⟨A', c', rfl, hc, hr, hA⟩ := hown.byts
  exact Ret.mk ⟨A', c', rfl, hc, hown, hr, fun y e => (hA y e).1, hbel⟩

set_option maxHeartbeats 2000000 in
theorem ref_body (A : Option Addr) (n c : Nat) (b : List UInt8) (w : World) (hb : Byts w A b) (hn : b.length = n) (h : n ≤ 65000) :
    Calls Try.prog 45 #[.slice A n c] w fun e w' => ∃ A' c', e = .returned (.tuple #[.slice A' (n + 6) c', .int .i64 0]) ∧ (n + 6 ≤ c' ∧ c' ≤ maxLen) ∧ Own w' w.heap.size (.slice A' (n + 6) c') (bodyL b) ∧ Byts w' A' (bodyL b) ∧ (∀ y, A' = some y → w.heap.size ≤ y.block) ∧ Below w.heap.size w w' := by
  obtain ⟨w0, rfl⟩ : ∃ w0 : World, w0 = w := ⟨_, rfl⟩
  have hs0 : w0.heap.size ≤ w0.heap.size := Nat.le_refl _
  have HN := Lib.hid hn
  have u1 : IntKind.u64.wrap (n : Int) = (n : Int) := IntWalk.u64_in _ (by omega)
  have hL1 : [] ++ low n (putN 2) = low n 2 := rfl
  have hm1 : (low n 2).length = 2 := low_length _ _
  have hm2 : (low n 2 ++ b).length = n + 2 := by rw [List.length_append, low_length, hn]; omega
  have hs := sumN_lt (low n 2 ++ b)
  have ht2 : ((low n 2 ++ b).take 2).drop 0 = low n 2 := by rw [List.drop_zero, List.take_append_of_le_length (by rw [low_length]; omega), List.take_of_length_le (by rw [low_length]; omega)]
  have hL3 : low n 2 ++ low (sumN (low n 2 ++ b)) (putN 4) = low n 2 ++ low (sumN (low n 2 ++ b)) 4 := rfl
  have hm3 : (low n 2 ++ low (sumN (low n 2 ++ b)) 4).length = 6 := by simp only [List.length_append, low_length]
  have hf4 : (low n 2 ++ low (sumN (low n 2 ++ b)) 4) ++ b = bodyL b := by unfold bodyL; rw [hn]; simp
  have hm4 : (bodyL b).length = n + 6 := by rw [bodyL_length, hn]
  obtain ⟨l2, hl2⟩ : ∃ l2, low n 2 ++ b = l2 := ⟨_, rfl⟩
  rw [hl2] at hm2 hs hL3 hm3 hf4 ht2
  obtain ⟨sm, hsm⟩ : ∃ sm, sumN l2 = sm := ⟨_, rfl⟩
  rw [hsm] at hs hL3 hm3 hf4
  obtain ⟨l3, hl3⟩ : ∃ l3, low n 2 ++ low sm 4 = l3 := ⟨_, rfl⟩
  rw [hl3] at hL3 hm3 hf4
  obtain ⟨l1, hl1⟩ : ∃ l1, low n 2 = l1 := ⟨_, rfl⟩
  rw [hl1] at hL1 hm1 hL3 ht2 hl2
  have u2 : IntKind.u64.wrap (sm : Int) = (sm : Int) := IntWalk.u64_in _ (by omega)
  have H1 := Lib.hid (And.intro hL1 hm1)
  have H2 := Lib.hid (And.intro hl2 (And.intro hm2 ht2))
  have H3 := Lib.hid (And.intro hL3 hm3)
  have H4 := Lib.hid (And.intro hf4 hm4)
  have HS := Lib.hid hsm
  have hl2n : l2.length ≤ maxLen := by unfold maxLen; omega
  clear hn hL1 hm1 hm2 hL3 hm3 hf4 hm4 hl1 hl2 hl3 hsm ht2
  go_enter Try.func45, Try.ntmps45
  go_upto_region 4 with (first
    | (go_at_call 76; refine (rput_as none 0 0 [] n 2 _ (Byts.nil _ _) rfl (by decide) (by omega) (by decide) (by decide) H1.out.1 H1.out.2).mono ?_; rintro e w1 ⟨r, rfl, A1, c1, rfl, hc1, hown1, hy1, -, hb1⟩)
    | (at_builtin; refine wpList_wanted (by rfl) fun K hK => wp_append_byts _ _ rfl rfl rfl hown1 (hb.below hb1) HN.out.symm (by rw [H1.out.2, HN.out]; omega) hb1.size ?_; intro v2 w2 hown2 hg2 hv2; refine hK _ _ ?_; clear hK K))
  rw [H2.out.1] at hown2
  obtain ⟨A2, c2, rfl, hc2, hy2, -⟩ := hown2.byts
  rw [H2.out.2.1] at hc2 ⊢
  have hb20 := hb1.grown hg2 hb1.size (fun k e => (hown1.lt e).1)
  have hdr : Below w2.heap.size w2 w2.drew := (Below.refl _ _).drew
  have hy2d := hy2.below hdr
  have hbd := hb20.drew
  have hzd := hbd.size
  have hc2a : 2 ≤ c2 := by omega
  clear hown2 hg2 hv2 hb1 hown1 hy1 hy2
  obtain ⟨A15, hA15⟩ : ∃ A15, (if c2 = 0 then A2 else A2.map (·.add (0 * 1))) = A15 := ⟨_, rfl⟩
  have hsl : ∀ W, (Instr.sliceAt 24 (.slice A2 (n + 2) c2) none (some (.int .i64 2)) none).run Try.prog W = .ok (.slice A15 2 c2) W := fun W => by
    have h1 := run_slice_byts (w := W) (A := A2) (n := n + 2) (c := c2) (L := 0) (H := 2) none (some (.int .i64 2)) (Or.inl ⟨rfl, rfl⟩) (Or.inr ⟨_, rfl⟩) (by omega) hc2a
    rw [hA15] at h1
    exact h1
  have hy15 : Byts w2.drew A15 l1 := by
    have h1 := hy2d.sliced (c := c2) (L := 0) (H := 2) (by rw [H2.out.2.1]; omega) (by rw [H2.out.2.1]; omega)
    rw [hA15, H2.out.2.2] at h1
    exact h1
  clear hA15
  go_region_held3 (fun _ => True) (trivial)
    (first
      | (go_at_call 77; refine (ref_sum _ _ _ l2 _ hy2d H2.out.2.1.symm hl2n).mono ?_; rintro e w' ⟨rfl, rfl⟩; rw [HS.out])
      | (go_at_call 76; refine (rput_as A15 2 _ l1 sm 4 _ hy15 H1.out.2.symm (by rw [H1.out.2]; decide) (by omega) (by decide) (by decide) H3.out.1 H3.out.2).mono ?_; rintro e w3 ⟨r, rfl, A3, c3, rfl, hc3, hown3, hy3, -, hb3⟩; have hb30 := hbd.trans (hb3.mono hzd))
      | (refine step_append_byts (by rfl) _ _ rfl rfl rfl hown3 (hb.below hb30) HN.out.symm (by rw [H3.out.2, HN.out]; omega) hb3.size ?_; intro v4 w4 hown4 hg4 hv4))
  go_wp2_with fail
  rw [H4.out.1] at hown4
  obtain ⟨A4, c4, rfl, hc4, hy4, hA4⟩ := hown4.byts
  rw [H4.out.2] at hc4 hown4 ⊢
  go_ret2
  exact ⟨A4, c4, rfl, hc4, hown4.mono hzd, hy4, fun y e => Nat.le_trans hzd (hA4 y e).1, hb30.grown hg4 hb30.size (fun k e => Nat.le_trans hzd (hown3.lt e).1)⟩

set_option maxHeartbeats 1000000 in
theorem ref_erased (A : Option Addr) (n c : Nat) (b : List UInt8) (w : World) (hb : Byts w A b) (hn : b.length = n) (hl : n ≤ 9223372036854775807) :
    Calls Try.prog 81 #[.slice A n c] w fun e w' => e = .returned (.bool (b.all (· == 255))) ∧ w = w' := by
  have HN := Lib.hid hn
  clear hn
  go_enter Try.func81, Try.ntmps81
  go_upto_region 2 with fail
  go_loop [3] (fun v3 => ∃ k : Nat, k ≤ n ∧ v3 = .int .i64 (k : Int) ∧ Hid ((b.take k).all (· == 255) = true)) (fun v3 => n - (intOf v3).toNat)
  case atStart => exact ⟨0, Nat.zero_le _, rfl, (by show _ = _; simp)⟩
  case round =>
    obtain ⟨k, hk, rfl, HP⟩ := hrel
    by_cases hlt : k < n
    · have hkb : k < b.length := by rw [HN.out]; exact hlt
      obtain ⟨g, o, rfl, hc⟩ := hb.at hkb
      have ht : b.take (k + 1) = b.take k ++ [b[k]] := by rw [List.take_succ_eq_append_getElem hkb]
      by_cases hx : b[k] = 255
      · have HP2 := Lib.hid (show (b.take (k + 1)).all (· == 255) = true by rw [ht, List.all_append, HP.out, hx]; rfl)
        rw [hx] at hc
        clear ht hx HP
        go_wp2_with fail
        go_round
        case rel => exact ⟨k + 1, by omega, by go_num, HP2.out⟩
        case measure => simp [intOf]; omega
      · have HF := Lib.hid (show b.all (· == 255) = false by
          rw [List.all_eq_false]
          exact ⟨b[k], List.getElem_mem _, by simpa using hx⟩)
        have hne : ¬ ((b[k].toNat : Int) = 255) := fun e => hx (UInt8.toNat_inj.1 (by
          have : b[k].toNat = 255 := by exact_mod_cast e
          rw [this]; rfl))
        have hne2 : ((b[k].toNat : Int) != 255) = true := by rw [bne_iff_ne]; exact hne
        generalize b[k].toNat = v at *
        clear ht hx HP
        go_wp2_with fail
        go_ret
        rw [HF.out]
        exact ⟨rfl, rfl⟩
    · obtain rfl : k = n := by omega
      have HF := Lib.hid (show b.all (· == 255) = true by have := HP.out; rw [← HN.out, List.take_length] at this; exact this)
      clear HP
      go_wp2_with fail
      go_ret
      rw [HF.out]
      exact ⟨rfl, rfl⟩
end Go.Proofs.Ytcdgpioljilgeaa
