/- The document's Put. -/
import Derived.Test.YtcdgpioljilgeaaGet
set_option linter.unusedVariables false
set_option maxRecDepth 100000
namespace Go.Proofs.Ytcdgpioljilgeaa
open Go.RowKit

set_option maxRecDepth 100000 in
set_option maxHeartbeats 2000000 in
theorem ref_put (A : Option Addr) (n c : Nat) (l : List UInt8) (v : Nat) (k : Int) (w : World) (hb : Byts w A l) (hn : n = l.length) (hl : l.length ≤ 140737488355000) (hv : v < 18446744073709551616) (hk1 : -9223372036854775808 ≤ k) (hk2 : k ≤ 9223372036854775807) :
    Calls Try.prog 76 #[.slice A n c, .int .u64 (v : Int), .int .i64 k] w (Ret fun r w' => Own w' w.heap.size r (l ++ low v (putN k)) ∧ Below w.heap.size w w') := by
  subst hn
  obtain ⟨w0, rfl⟩ : ∃ w0 : World, w0 = w := ⟨_, rfl⟩
  have hs0 := Nat.le_refl w0.heap.size
  have hl2 : l.length ≤ 140737488355328 := by omega
  obtain ⟨q, hq⟩ : ∃ q, putN k = q := ⟨_, rfl⟩
  have hq8 : q ≤ 8 := by unfold putN at hq; omega
  have hqi : (k ≤ 0 → q = 0) ∧ (0 ≤ k → ¬ 8 < k → (q : Int) = k) ∧ (8 < k → q = 8) := by unfold putN at hq; omega
  rw [hq]
  clear hq
  have HQ := Lib.hid hqi
  clear hqi
  go_enter Try.func76, Try.ntmps76
  go_upto_region 3 with (at_builtin; refine wpList_wanted (by rfl) fun K hK => wp_clone_byts _ rfl rfl hb rfl hl2 hs0 ?_; intro r w1 hown hbel hown2; refine hK _ _ ?_; clear hK K)
  go_loopw [7, 8] (fun v7 v8 wr => ∃ j : Nat, j ≤ q ∧ v8 = .int .i64 (j : Int) ∧ Own wr w0.heap.size v7 (l ++ low v j) ∧ Below w0.heap.size w0 wr) (fun _ v8 _ => q - (intOf v8).toNat)
  case atStart => exact ⟨0, Nat.zero_le _, rfl, by simpa [low] using hown, hbel⟩
  case round =>
    clear hown hbel hown2
    obtain ⟨j, hj, rfl, hown, hbel⟩ := hrel
    have hsz := hbel.size
    go_upto_region 3 with fail
    go_cut [15] (fun v15 w' => v15 = .bool (decide (j < q)) ∧ w' = wr)
    case first =>
      by_cases hk0 : ¬ 0 < k
      · have hq0 := Lib.hid (HQ.out.1 (by omega))
        go_wp2_with fail
        go_meet
        (have := hq0.out; exact ⟨by first | (simp [this]; done) | (simp [this]; omega), rfl⟩)
      · by_cases hk8 : ¬ 8 < k
        · have hq0 := Lib.hid (HQ.out.2.1 (by omega) (by omega))
          go_wp2_with fail
          go_meet
          (have := hq0.out; exact ⟨by simp [← this], rfl⟩)
        · have hq0 := Lib.hid (HQ.out.2.2 (by omega))
          go_wp2_with fail
          go_meet
          (have := hq0.out; exact ⟨by first | (simp [this]; done) | (simp [this]; omega), rfl⟩)
    case rest =>
      obtain ⟨rfl, hw⟩ := hcut
      obtain rfl := hw.symm
      by_cases hlt : j < q
      · have hb8 := low_byte v j
        have hone := byts_one wr (UInt8.ofNat (v / 2 ^ (8 * j)))
        rw [hb8] at hone
        have hown1 := hown.alloc (.cells #[.int .u8 ((v : Int) / 2 ^ (8 * j) % 256)] 5)
        have hlen1 : (l ++ low v j).length + 1 ≤ 140737488355328 := by simp [low_length]; omega
        have hsz2 : w0.heap.size ≤ (wr.alloc (.cells #[.int .u8 ((v : Int) / 2 ^ (8 * j) % 256)] 5)).heap.size := by simp; omega
        have H2 : Hid (l ++ low v (j + 1) = l ++ low v j ++ [UInt8.ofNat (v / 2 ^ (8 * j))]) := by show _ = _; rw [low_succ, List.append_assoc]
        have hlow := fun e => (hown.lt (k := e)) 
        clear hb8
        go_wp2_with (at_builtin; go_must (refine wpList_wanted (by rfl) fun K hK => wp_append_byts _ _ rfl rfl rfl hown1 hone rfl hlen1 hsz2 ?_; intro v' w' g1 g2 g3; refine hK _ _ ?_; clear hK K))
        go_roundw
        case rel => exact ⟨j + 1, by omega, by go_num, by rw [H2.out]; exact g1, ((hbel.alloc hsz _).grown g2 hsz2 (fun e he => (hlow e he).1))⟩
        case measure => simp [intOf]; omega
      · obtain rfl : j = q := by omega
        go_wp2_with fail
        go_ret
        exact Ret.mk ⟨hown, hbel⟩

end Go.Proofs.Ytcdgpioljilgeaa
