/- The contract of frame.Scan. -/
import Derived.Test.YtcdgpioljilgeaaFrame
import Derived.Test.YtcdgpioljilgeaaRowsB
import Derived.Shelf.Bytes.SlCountOne
set_option linter.unusedVariables false
set_option maxRecDepth 100000
set_option linter.unusedSimpArgs false
namespace Go.Proofs.Ytcdgpioljilgeaa
open Go.RowKit

theorem bytesOf_map (b : List UInt8) : Lib.bytesOf (b.map fun x => (x.toNat : Int)) = b := by
  unfold Lib.bytesOf
  rw [List.map_map]
  have : ((fun n : Int => UInt8.ofNat n.toNat) ∘ fun x : UInt8 => (x.toNat : Int)) = id := by
    funext x
    simp
  rw [this, List.map_id]

theorem run_count_ff (A : Option Addr) (n c : Nat) (b : List UInt8) (w : World) (hb : Byts w A b) (hn : b.length = n) :
    (callFunc 91 #[.slice A n c, .int .u8 255]).run Try.prog w = .ok (.value (.int .i64 ((b.count 255 : Nat) : Int))) w := by
  rw [run_callFunc_extern Try.func91 (by kernel_rfl) (by kernel_rfl) (by kernel_rfl) (e := Extern.BytealgCount.count) (by kernel_rfl)]
  cases A with
  | none =>
    have : b = [] := by
      rcases hb with h | ⟨x, y, h, _⟩
      · exact h
      · cases h
    subst this
    rw [Lib.run_countNil w n c 255]
    rfl
  | some a =>
    have h1 := Lib.run_countAt (P := Try.prog) w a n c (b.map fun x => (x.toNat : Int)) (by simpa using hn) (fun i hi => by
      obtain ⟨bb, off, e, hc⟩ := hb.at (k := i) (by omega)
      cases e
      rw [add_none, hc, List.getD_eq_getElem?_getD, List.getElem?_map, List.getElem?_eq_getElem (by omega)]
      rfl) 255
    rw [h1, bytesOf_map]
    rfl

set_option maxHeartbeats 1000000 in
theorem count_ff (A : Option Addr) (n c : Nat) (b : List UInt8) (g o : Nat) (w : World) (hb : Byts w A b) (hn : b.length = n) (hc : w.cell? ⟨g, o, none⟩ = some (.int .u8 255)) :
    Calls Try.prog 79 #[.slice A n c, .slice (some ⟨g, o, none⟩) 1 1] w fun e w' => e = .returned (.int .i64 ((b.count 255 : Nat) : Int)) ∧ w = w' := by
  have hr := run_count_ff A n c b w hb hn
  go_enter Try.func79, Try.ntmps79
  go_wp2_with fail
  go_ret
  exact ⟨rfl, rfl⟩
theorem count_all (l : List UInt8) : ((l.count 255 : Nat) : Int) = (l.length : Int) ↔ l.all (· == 255) = true := by
  constructor
  · intro h
    have h1 : l.count 255 = l.length := by exact_mod_cast h
    rw [List.count_eq_length] at h1
    rw [List.all_eq_true]
    intro x hx
    simpa using (h1 x hx).symm
  · intro h
    rw [List.all_eq_true] at h
    have h1 : l.count 255 = l.length := by
      rw [List.count_eq_length]
      intro x hx
      have := h x hx
      simpa using (beq_iff_eq.1 this).symm
    rw [h1]
theorem clean_test (l : List UInt8) (m : Int) (hm : (l.length : Int) = m) : (((l.count 255 : Nat) : Int) == m) = l.all (· == 255) := by
  rw [Bool.eq_iff_iff, beq_iff_eq, ← hm]
  exact count_all l

set_option maxHeartbeats 8000000 in
theorem frame_scan (A : Option Addr) (n c : Nat) (b : List UInt8) (w : World) (hb : Byts w A b) (hn : b.length = n) (hc : n ≤ c) (hc2 : c ≤ maxLen) (hl : n ≤ 100000000) :
    Calls Try.prog 46 #[.slice A n c] w fun e w' => ∃ A' c', e = .returned (.tuple #[.slice A' (recsF b).length c', .int .i64 (endF (recsF b) : Int), .bool (cleanF b)]) ∧ ((recsF b).length ≤ c' ∧ c' ≤ maxLen) ∧ Rows w' A' (recsF b) ∧ (∀ y, A' = some y → w.heap.size ≤ y.block) ∧ Below w.heap.size w w' := by
  obtain ⟨w0, rfl⟩ : ∃ w0 : World, w0 = w := ⟨_, rfl⟩
  unfold maxLen at hc2
  have hs0 : w0.heap.size ≤ w0.heap.size := Nat.le_refl _
  have HN := Lib.hid hn
  clear hn
  go_enter Try.func46, Try.ntmps46
  go_upto_region 3 with fail
  go_loopw [5, 6] (fun v5 v6 wr => ∃ (xs : List (List UInt8)) (p : Nat), v6 = .int .i64 (p : Int) ∧ Hid (xs ++ recsF (b.drop p) = recsF b) ∧ Hid (p = endF xs) ∧ p ≤ n ∧ xs.length ≤ p ∧ OwnRows wr w0.heap.size v5 xs ∧ Below w0.heap.size w0 wr) (fun _ v6 _ => n - (intOf v6).toNat)
  case atStart => exact ⟨[], 0, rfl, (by show _ = _; simp), (rfl : 0 = endF []), Nat.zero_le _, Nat.zero_le _, OwnRows.nil _ _, Below.refl _ _⟩
  case round =>
    obtain ⟨xs, p, rfl, HX, HP, hp, hxp, hown, hbel⟩ := hrel
    obtain ⟨A5, c5, rfl, hc5, hrows, hA5⟩ := hown.form
    have hbw := hb.below hbel
    have hdl : (b.drop p).length = n - p := by rw [List.length_drop, HN.out]
    have HDL := Lib.hid hdl
    clear hdl
    go_upto_region 4 with (first
      | (refine wpList_wanted (by rfl) fun K hK => wp_slice_byts _ _ _ rfl p n rfl (Or.inr ⟨_, _, rfl, rfl⟩) (Or.inl ⟨rfl, rfl⟩) hp hc ?_; intro A12 e1 e2 e3; refine hK _ _ ?_; clear hK K)
      | (go_at_call 78; refine (frame_next A12 (n - p) (c - p) (b.drop p) _ (by have h9 := e1 _ b hbw (by rw [HN.out]; exact Nat.le_refl _) (by rw [HN.out]; exact hc); rw [List.take_of_length_le (by rw [HN.out]; exact Nat.le_refl _)] at h9; exact h9) HDL.out (by omega) (by omega)).mono ?_; rintro e w1 ⟨A7, k7, c7, rfl, hc7, hk7, hy7, hA7, hb1⟩))
    have hown1 := hown.below hb1
    have hbel1 := hbel.trans (hb1.mono hbel.size)
    have hz1 := hbel1.size
    have hlt5 := fun g (hg : (Value.slice A5 xs.length c5).ownBlock = some g) => (hown.lt hg).2
    have HLT := Lib.hid hlt5
    clear hown hbel hbw hlt5 e1 e2 e3 hrows hA5
    cases hnx : nextF (b.drop p) with
    | none =>
      rw [hnx] at hk7
      have hk0 : k7 = 0 := hk7.symm
      subst hk0
      have hall : recsF b = xs := by rw [← HX.out, recsF_none hnx, List.append_nil]
      have hend : endF (recsF b) = p := by rw [hall, HP.out]
      have hcl : cleanF b = (b.drop p).all (· == 255) := by unfold cleanF; rw [hend]
      have HALL := Lib.hid (And.intro hall (And.intro hend hcl))
      obtain ⟨A, cx, e5, hc5', hrw, hA5⟩ := hown1.form
      simp only [Value.slice.injEq] at e5
      obtain ⟨rfl, -, rfl⟩ := e5
      have hbw1 := hb.below hbel1
      clear hall hend hcl hk7 hy7
      clear hnx
      have hlen2 : ((b.drop p).length : Int) = (n : Int) - (p : Int) := by rw [HDL.out]; omega
      have HCT := Lib.hid (clean_test (b.drop p) ((n : Int) - (p : Int)) hlen2)
      clear hlen2
      go_upto_region 7 with fail
      go_wp2_with (refine wpList_wanted (by rfl) fun K hK => wp_slice_byts _ _ _ rfl p n rfl (Or.inr ⟨_, _, rfl, rfl⟩) (Or.inl ⟨rfl, rfl⟩) hp hc ?_; intro A31 e1 e2 e3; refine hK _ _ ?_; clear hK K)
      have hy31 := e1 _ b hbw1 (by rw [HN.out]; exact Nat.le_refl _) (by rw [HN.out]; exact hc)
      rw [List.take_of_length_le (by rw [HN.out]; exact Nat.le_refl _)] at hy31
      refine (count_ff A31 (n - p) _ (b.drop p) w1.heap.size 0 _ (hy31.alloc _) HDL.out (new_cell w1 [.int .u8 255] 5 (0, 0) 0 _ rfl)).mono ?_
      rintro e w2 ⟨rfl, rfl⟩
      have hct := HCT.out
      generalize ((b.drop p).count 255 : Nat) = cn at *
      go_wp2_with fail
      go_ret3
      refine ⟨A5, c5, ?_, by rw [HALL.out.1]; exact hc5', by rw [HALL.out.1]; exact hrw.below (below_alloc w1 _), hA5, hbel1.alloc hz1 _⟩
      rw [HALL.out.2.2, HALL.out.2.1, HALL.out.1]
      rfl
    | some x =>
      have hx := nextF_some hnx
      rw [hnx] at hk7 hy7
      simp only [Option.getD_some] at hk7 hy7
      have hxl : x.length + 7 ≤ n - p := by have := hx.1; rw [HDL.out] at this; exact this
      rw [hk7] at hxl
      have HNX := Lib.hid (show (xs ++ [x]) ++ recsF (b.drop (p + (k7 + 7))) = recsF b by
        rw [← HX.out, recsF_some hnx, List.drop_drop, hk7, List.append_assoc]; rfl)
      have HEN := Lib.hid (show p + (k7 + 7) = endF (xs ++ [x]) by rw [endF_snoc, ← HP.out, hk7])
      have HK := Lib.hid hk7
      clear hnx hx hk7 HX HP
      have hownA := hown1.below (below_alloc w1 (.cells #[.slice A7 k7 c7] 24))
      have hcA := new_cell w1 [.slice A7 k7 c7] 24 (0, 0) 0 _ rfl
      have hyAA := hy7.alloc (.cells #[.slice A7 k7 c7] 24)
      have hne : 0 < x.length → ∀ z, A7 = some z → (Value.slice A5 xs.length c5).ownBlock ≠ some z.block := fun _ z e e2 => by
        have h1 := hA7 z e
        have h2 := HLT.out _ e2
        omega
      have HNE := Lib.hid hne
      clear hne
      have hx9 : xs.length + 1 ≤ 1000000000 := by omega
      have hzA : w0.heap.size ≤ (w1.alloc (.cells #[.slice A7 k7 c7] 24)).heap.size := by simp; omega
      go_upto_region 6 with (at_builtin; refine wpList_wanted (by rfl) fun K hK => wp_append_row _ _ rfl rfl rfl hownA hcA hyAA HK.out hc7.1 HNE.out hx9 hzA ?_; intro v5' w3 hown3 hg3 hv3; refine hK _ _ ?_; clear hK K)
      have hbel3 := (hbel1.alloc hz1 (.cells #[.slice A7 k7 c7] 24)).grown hg3 hzA (fun k e => (hownA.lt e).1)
      clear hownA hcA hyAA hg3 hown1 hbel1 hy7
      go_wp2_with (go_at_call 49; refine (frame_size (k7 : Int) _ (by omega) (by omega)).mono ?_; rintro e w' ⟨rfl, rfl⟩)
      go_roundw
      case rel => exact ⟨xs ++ [x], p + (k7 + 7), by go_num, HNX.out, HEN.out, by omega, by simp; omega, hown3, hbel3⟩
      case measure => simp [intOf]; omega
end Go.Proofs.Ytcdgpioljilgeaa
