/- The contracts of codec's functions and of the document's answers to them. -/
import Derived.Test.YtdieeleaaejfhaaConcat
set_option linter.unusedVariables false
set_option maxRecDepth 100000
namespace Go.Proofs.Ytdieeleaaejfhaa
open Go.RowKit

/-- The lowest bytes of a number. -/
def low (v n : Nat) : List UInt8 := (List.range n).map fun i => UInt8.ofNat (v / 2 ^ (8 * i))

theorem low_length (v n : Nat) : (low v n).length = n := by simp [low]
theorem low_succ (v n : Nat) : low v (n + 1) = low v n ++ [UInt8.ofNat (v / 2 ^ (8 * n))] := by simp [low, List.range_succ]

theorem low_byte (v i : Nat) : ((UInt8.ofNat (v / 2 ^ (8 * i))).toNat : Int) = (v : Int) / 2 ^ (8 * i) % 256 := by
  simp [UInt8.toNat_ofNat']

theorem set_fill (a : List UInt8) (m : Nat) (x : UInt8) (hm : 0 < m) : (a ++ List.replicate m 0).set a.length x = a ++ [x] ++ List.replicate (m - 1) 0 := by
  obtain ⟨m, rfl⟩ : ∃ k, m = k + 1 := ⟨m - 1, by omega⟩
  rw [List.set_append_right _ _ (Nat.le_refl _)]
  simp [List.replicate_succ]

theorem rows_two {w : World} {B1 B2 : Option Addr} {l1 l2 : List UInt8} (c1 c2 : Nat) (h1 : Byts w B1 l1) (h2 : Byts w B2 l2) (q : Nat × Nat) :
    Rows (w.alloc (.cells #[.slice B1 l1.length c1, .slice B2 l2.length c2] 43 q)) (some ⟨w.heap.size, 0, none⟩) [l1, l2] := by
  intro i hi
  have : i = 0 ∨ i = 1 := by simp at hi; omega
  rcases this with rfl | rfl
  · exact ⟨_, 0, B1, c1, rfl, new_cell w [_, _] _ q 0 _ rfl, h1.alloc _⟩
  · exact ⟨_, 0, B2, c2, rfl, new_cell w [_, _] _ q 1 _ rfl, h2.alloc _⟩

/-- So many bytes are put. -/
def putN (n : Int) : Nat := min n.toNat 8

set_option maxRecDepth 100000 in
set_option maxHeartbeats 2000000 in
theorem codec_put (A : Option Addr) (n c : Nat) (l : List UInt8) (v : Nat) (k : Int) (w : World) (hb : Byts w A l) (hn : n = l.length) (hl : l.length ≤ 140737488355000) (hv : v < 18446744073709551616) (hk1 : -9223372036854775808 ≤ k) (hk2 : k ≤ 9223372036854775807) :
    Calls Try.prog 53 #[.slice A n c, .int .u64 (v : Int), .int .i64 k] w (Ret fun r w' => Own w' w.heap.size r (l ++ low v (putN k)) ∧ Below w.heap.size w w') := by
  subst hn
  obtain ⟨w0, rfl⟩ : ∃ w0 : World, w0 = w := ⟨_, rfl⟩
  have hs0 := Nat.le_refl w0.heap.size
  obtain ⟨q, hq⟩ : ∃ q, putN k = q := ⟨_, rfl⟩
  have hq8 : q ≤ 8 := by unfold putN at hq; omega
  have hqi : (k < 0 → q = 0) ∧ (0 ≤ k → ¬ 8 < k → (q : Int) = k) ∧ (8 < k → q = 8) := by unfold putN at hq; omega
  rw [hq]
  clear hq
  have HQ := Lib.hid hqi
  clear hqi
  go_enter Try.func53, Try.ntmps53
  go_upto_region 1 with fail
  go_cut [7] (fun v7 w' => ∃ g, v7 = .slice (some ⟨g, 0, none⟩) q q ∧ w0.heap.size ≤ g ∧ Own w' w0.heap.size (.slice (some ⟨g, 0, none⟩) q q) (List.replicate q 0) ∧ Below w0.heap.size w0 w')
  case first =>
    by_cases hk0 : k < 0
    · have hq0 := Lib.hid (HQ.out.1 hk0)
      go_wp2_with (at_make; go_must (refine wpList_wanted (by rfl) fun K hK => wp_make_byts (B := w0.heap.size) (n := q) _ _ rfl rfl rfl ?_ ?_ (by omega) hs0 ?_; (rw [hq0.out]; rfl); (rw [hq0.out]; rfl); intro g w1 hg hown hbel hlt; refine hK _ _ ?_; clear hK K))
      go_meet
      exact ⟨_, rfl, hg, hown, hbel⟩
    · by_cases hk8 : ¬ 8 < k
      · have hq0 := Lib.hid (HQ.out.2.1 (by omega) hk8)
        go_wp2_with (at_make; go_must (refine wpList_wanted (by rfl) fun K hK => wp_make_byts (B := w0.heap.size) (n := q) _ _ rfl rfl rfl ?_ ?_ (by omega) hs0 ?_; exact hq0.out.symm; exact hq0.out.symm; intro g w1 hg hown hbel hlt; refine hK _ _ ?_; clear hK K))
        go_meet
        exact ⟨_, rfl, hg, hown, hbel⟩
      · have hq0 := Lib.hid (HQ.out.2.2 (by omega))
        go_wp2_with (at_make; go_must (refine wpList_wanted (by rfl) fun K hK => wp_make_byts (B := w0.heap.size) (n := q) _ _ rfl rfl rfl ?_ ?_ (by omega) hs0 ?_; (rw [hq0.out]; rfl); (rw [hq0.out]; rfl); intro g w1 hg hown hbel hlt; refine hK _ _ ?_; clear hK K))
        go_meet
        exact ⟨_, rfl, hg, hown, hbel⟩
  case rest =>
    obtain ⟨g, rfl, hg, hown, hbel⟩ := hcut
    go_upto_region 3 with fail
    go_loopw [8, 15] (fun v8 v15 wr => ∃ j : Nat, j ≤ q ∧ v15 = .int .i64 (j : Int) ∧ Own wr w0.heap.size (.slice (some ⟨g, 0, none⟩) q q) (low v j ++ List.replicate (q - j) 0) ∧ Below w0.heap.size w0 wr) (fun _ v15 _ => q - (intOf v15).toNat)
    case atStart => exact ⟨0, Nat.zero_le _, rfl, by simpa [low] using hown, hbel⟩
    case round =>
      clear hown hbel
      obtain ⟨j, hj, rfl, hown, hbel⟩ := hrel
      by_cases hlt1 : j < q
      · have hc := hown.cell (i := j) (by simp [low_length]; omega)
        have hf := hown.frz j
        generalize (low v j ++ List.replicate (q - j) 0)[j]'(by simp [low_length]; omega) = old at *
        have hji : (j : Int) < (q : Int) := by omega
        have hset := hown.set j (UInt8.ofNat (v / 2 ^ (8 * j)))
        have hset2 : (low v j ++ List.replicate (q - j) 0).set j (UInt8.ofNat (v / 2 ^ (8 * j))) = low v (j + 1) ++ List.replicate (q - (j + 1)) 0 := by
          have := set_fill (low v j) (q - j) (UInt8.ofNat (v / 2 ^ (8 * j))) (by omega)
          rw [low_length] at this
          rw [this, low_succ, Nat.sub_sub]
        rw [hset2, low_byte] at hset
        have hbel' := hbel.setCell (p := ⟨g, j, none⟩) hg (.int .u8 ((v : Int) / 2 ^ (8 * j) % 256))
        clear hset2 hown hbel
        go_wp2_with fail
        go_roundw
        case rel => exact ⟨j + 1, by omega, by go_num, hset, hbel'⟩
        case measure => simp [intOf]; omega
      · obtain rfl : j = q := by omega
        simp only [Nat.sub_self, List.replicate_zero, List.append_nil] at hown
        have hb1 := hb.below hbel
        have hm := hown.read
        have hj8 := low_length v j
        go_wp2_with (go_at_call 70; go_must (refine (concat_byts _ _ _ [l, low v j] _ (by have := rows_two c j hb1 hm (0, 0); rw [hj8] at this; exact this) rfl (by simp) (by simp [hj8]; omega)).mono ?_); rintro e w2 ⟨r, rfl, hown2, hbel2⟩)
        go_ret
        refine Ret.mk ⟨?_, hbel.trans ((below_alloc _ _).trans (hbel2.mono (by simp)) |>.mono hbel.size)⟩
        have := hown2.mono (B' := w0.heap.size) (by have := hbel.size; simp; omega)
        simpa using this
