/- The document's Scan. -/
import Derived.Test.YtcdgpioljilgeaaRefFrame
import Derived.Deep.QuietTactic
import Derived.BigQuiet
set_option linter.unusedVariables false
set_option maxRecDepth 100000
set_option linter.unusedSimpArgs false
namespace Go.Proofs.Ytcdgpioljilgeaa
open Go.RowKit

theorem getR_at (b : List UInt8) (p : Nat) (h : p + 2 ≤ b.length) : getR b (p : Int) 2 = (num ((b.drop p).take 2), 0) := by
  unfold getR
  rw [if_neg (by omega), if_neg (by omega)]
  have : (b.take ((p : Int).toNat + (2 : Int).toNat)).drop (p : Int).toNat = (b.drop p).take 2 := by
    show (b.take (p + 2)).drop p = _
    rw [List.drop_take]
    congr 1
    omega
  rw [this]
theorem getR_past (b : List UInt8) (p : Nat) (h : b.length < p + 2) : getR b (p : Int) 2 = (0, 3) := by
  unfold getR
  rw [if_neg (by omega), if_pos (by omega)]

theorem nextF_none2 {b : List UInt8} (h : ¬ (2 ≤ b.length ∧ num (b.take 2) ≤ 65000 ∧ num (b.take 2) + 7 ≤ b.length ∧ b.getD (num (b.take 2) + 6) 0 = 0)) : nextF b = none := by
  unfold nextF
  rw [if_neg (fun hh => h ⟨hh.1, hh.2.1, hh.2.2.1, hh.2.2.2.2⟩)]
theorem nextF_body {b : List UInt8} (h : 2 ≤ b.length ∧ num (b.take 2) ≤ 65000 ∧ num (b.take 2) + 7 ≤ b.length ∧ b.getD (num (b.take 2) + 6) 0 = 0) :
    nextF b = if bodyL ((b.drop 6).take (num (b.take 2))) = b.take (6 + num (b.take 2)) then some ((b.drop 6).take (num (b.take 2))) else none := by
  have hs := body_same h.1 h.2.2.1
  unfold nextF
  by_cases hq : bodyL ((b.drop 6).take (num (b.take 2))) = b.take (6 + num (b.take 2))
  · rw [if_pos hq, if_pos ⟨h.1, h.2.1, h.2.2.1, hs.1 hq, h.2.2.2⟩]
  · rw [if_neg hq, if_neg (fun hh => hq (hs.2 hh.2.2.2.1))]

set_option maxHeartbeats 8000000 in
theorem ref_scan (A : Option Addr) (n c : Nat) (b : List UInt8) (w : World) (hb : Byts w A b) (hn : b.length = n) (hc : n ≤ c) (hc2 : c ≤ maxLen) (hl : n ≤ 100000000) :
    Calls Try.prog 47 #[.slice A n c] w fun e w' => ∃ A' c', e = .returned (.tuple #[.slice A' (recsF b).length c', .int .i64 (endF (recsF b) : Int), .bool (cleanF b)]) ∧ ((recsF b).length ≤ c' ∧ c' ≤ maxLen) ∧ Rows w' A' (recsF b) ∧ (∀ y, A' = some y → w.heap.size ≤ y.block) ∧ Below w.heap.size w w' := by
  obtain ⟨w0, rfl⟩ : ∃ w0 : World, w0 = w := ⟨_, rfl⟩
  unfold maxLen at hc2
  have hs0 : w0.heap.size ≤ w0.heap.size := Nat.le_refl _
  have HN := Lib.hid hn
  clear hn
  go_enter Try.func47, Try.ntmps47
  go_upto_region 3 with fail
  go_loopw [5, 6] (fun v5 v6 wr => ∃ (xs : List (List UInt8)) (p : Nat), v6 = .int .i64 (p : Int) ∧ Hid (xs ++ recsF (b.drop p) = recsF b) ∧ Hid (p = endF xs) ∧ p ≤ n ∧ xs.length ≤ p ∧ OwnRows wr w0.heap.size v5 xs ∧ Below w0.heap.size w0 wr) (fun _ v6 _ => n - (intOf v6).toNat)
  case atStart => exact ⟨[], 0, rfl, (by show _ = _; simp), (rfl : 0 = endF []), Nat.zero_le _, Nat.zero_le _, OwnRows.nil _ _, Below.refl _ _⟩
  case round =>
    obtain ⟨xs, p, rfl, HX, HP, hp, hxp, hown, hbel⟩ := hrel
    obtain ⟨A5, c5, rfl, hc5, hrows, hA5⟩ := hown.form
    have hbw := hb.below hbel
    have hdl : (b.drop p).length = n - p := by rw [List.length_drop, HN.out]
    have HDL := Lib.hid hdl
    have HG := Lib.hid (fun W (h : Byts W A b) => ref_get A n c b (p : Int) 2 W h HN.out.symm (by rw [HN.out]; omega) (by omega) (by omega) (by decide) (by decide))
    obtain ⟨m, hm⟩ : ∃ m, num ((b.drop p).take 2) = m := ⟨_, rfl⟩
    have hm16 : m < 65536 := by
      have h1 := num_lt ((b.drop p).take 2)
      have h2 : ((b.drop p).take 2).length ≤ 2 := List.length_take_le _ _
      have : 2 ^ (8 * ((b.drop p).take 2).length) ≤ 2 ^ 16 := Nat.pow_le_pow_right (by decide) (by omega)
      omega
    have hi : IntKind.i64.wrap (m : Int) = (m : Int) := IntWalk.i64_in _ (by omega)
    have hu : IntKind.i64.wrap (0 : Int) = 0 := IntWalk.i64_in _ (by omega)
    clear hrows hA5 hdl
    by_cases hok : 2 ≤ n - p ∧ m ≤ 65000 ∧ m + 7 ≤ n - p ∧ (b.drop p).getD (m + 6) 0 = 0
    · obtain ⟨h1, h2, h3, h4⟩ := hok
      have HR := Lib.hid (hm ▸ getR_at b p (by have := HN.out; omega))
      have hnf := nextF_body (b := b.drop p) ⟨by rw [HDL.out]; exact h1, by rw [hm]; exact h2, by rw [hm, HDL.out]; exact h3, by rw [hm]; exact h4⟩
      rw [hm] at hnf
      have hbk : b[p + m + 6]? = some 0 := by
        rw [List.getD_eq_getElem?_getD, List.getElem?_drop] at h4
        have e : p + (m + 6) = p + m + 6 := by omega
        rw [e, List.getElem?_eq_getElem (by have := HN.out; omega)] at h4
        rw [List.getElem?_eq_getElem (by have := HN.out; omega)]
        simpa using h4
      have hj1 : (p : Int) + 6 = ((p + 6 : Nat) : Int) := by push_cast; rfl
      have hj2 : (p : Int) + 6 + (m : Int) = ((p + 6 + m : Nat) : Int) := by push_cast; rfl
      have HJ := Lib.hid (And.intro hj1 hj2)
      have hxs : (b.take (p + 6 + m)).drop (p + 6) = ((b.drop p).drop 6).take m := by
        rw [List.drop_take, List.drop_drop]
        congr 1
        omega
      have hxl : (((b.drop p).drop 6).take m).length = m := by rw [List.length_take, List.length_drop, HDL.out]; omega
      have hzs : (b.take (p + 6 + m)).drop p = (b.drop p).take (6 + m) := by
        rw [List.drop_take]
        congr 1
        omega
      have hzl : ((b.drop p).take (6 + m)).length = m + 6 := by rw [List.length_take, HDL.out]; omega
      generalize hxx : ((b.drop p).drop 6).take m = x at *
      generalize hzz : (b.drop p).take (6 + m) = z at *
      have HXS := Lib.hid (And.intro hxs hxl)
      have HZS := Lib.hid (And.intro hzs hzl)
      have HNF := Lib.hid hnf
      have h3i : (m : Int) + 7 ≤ (n : Int) - (p : Int) := by omega
      have hxm : x.length ≤ 140737488355328 := by omega
      obtain ⟨g, o, e, hcf⟩ := hbw.at (k := p + m + 6) (by have := HN.out; omega)
      have hbv : b[p + m + 6]'(by have := HN.out; omega) = 0 := by
        rw [List.getElem?_eq_getElem (by have := HN.out; omega)] at hbk
        exact Option.some.inj hbk
      rw [hbv] at hcf
      subst e
      clear hj1 hj2 hxs hxl hzs hzl hnf hbk hbv hm hxx hzz h4
      go_upto_region 6 with (go_at_call 80; refine (HG.out _ hbw).mono ?_; rintro e w1 ⟨rfl, mm, rfl⟩; rw [HR.out])
      have hbwE := hbw.drewN mm
      have hownE := hown.below (below_drewN (Below.refl _ _) mm)
      have hbelE := below_drewN hbel mm
      clear hown hbel hbw hcf
      generalize wr.drewN mm = wE at *
      have hzE := Nat.le_refl wE.heap.size
      go_upto_region 7 with (first
        | (refine wpList_wanted (by rfl) fun K hK => wp_slice_byts _ _ _ rfl (p + 6) (p + 6 + m) rfl (Or.inr ⟨_, _, rfl, congrArg (Value.int .i64) HJ.out.1⟩) (Or.inr ⟨_, _, rfl, congrArg (Value.int .i64) HJ.out.2⟩) (by omega) (by omega) ?_; intro A53 e1 e2 e3; have hy53 := e1 _ b hbwE (by rw [HN.out]; omega) (by rw [HN.out]; omega); rw [HXS.out.1] at hy53; refine hK _ _ ?_; clear hK K)
        | (at_builtin; refine wpList_wanted (by rfl) fun K hK => wp_clone_byts _ rfl rfl hy53 (by rw [HXS.out.2]; omega) hxm hzE ?_; intro r w2 hown2 hb2 hz2; refine hK _ _ ?_; clear hK K))
      obtain ⟨A10, c10, rfl, hc10, hy10, hA10⟩ := hown2.byts
      rw [HXS.out.2] at hc10 ⊢
      have hbw2 := hbwE.below hb2
      have hownF := hownE.below hb2
      have hbel2 := hbelE.trans (hb2.mono hbelE.size)
      have hlt5 := fun g (hg : (Value.slice A5 xs.length c5).ownBlock = some g) => (hownE.lt hg).2
      have HLT := Lib.hid hlt5
      clear hbwE hownE hbelE hlt5 hown2 hz2
      go_upto_region 8 with (go_at_call 45; refine (ref_body A10 m c10 x _ hy10 HXS.out.2 h2).mono ?_; rintro e w3 ⟨A11, c11, rfl, hc11, -, hy11, -, hb3⟩)
      have hbw3 := hbw2.below hb3
      have hown3 := hownF.below hb3
      have hbel3 := hbel2.trans (hb3.mono hbel2.size)
      have hy10b := hy10.below hb3
      obtain ⟨A68, hA68⟩ : ∃ A68, (if c = p then (some ⟨g, o, none⟩ : Option Addr) else (some ⟨g, o, none⟩ : Option Addr).map (·.add (p * 1))) = A68 := ⟨_, rfl⟩
      have hsl : ∀ W, (Instr.sliceAt 24 (.slice (some ⟨g, o, none⟩) n c) (some (.int .i64 (p : Int))) (some (.int .i64 ((p : Int) + 6 + (m : Int)))) none).run Try.prog W = .ok (.slice A68 (m + 6) (c - p)) W := fun W => by
        have h1 := run_slice_byts (w := W) (A := some ⟨g, o, none⟩) (n := n) (c := c) (L := p) (H := p + 6 + m) (some (.int .i64 (p : Int))) (some (.int .i64 ((p + 6 + m : Nat) : Int))) (Or.inr ⟨_, rfl⟩) (Or.inr ⟨_, rfl⟩) (by omega) (by omega)
        rw [hA68, show p + 6 + m - p = m + 6 by omega, ← HJ.out.2] at h1
        exact h1
      have hy68 : Byts w3 A68 z := by
        have h1 := hbw3.sliced (c := c) (L := p) (H := p + 6 + m) (by rw [HN.out]; omega) (by rw [HN.out]; exact hc)
        rw [hA68, HZS.out.1] at h1
        exact h1
      have hbl := bodyL_length x
      rw [HXS.out.2] at hbl
      have hcv1 := fun k => run_conv_str (w := w3.drewN k) (c := c11) (hy11.drewN k) hbl.symm
      have hcv2 := fun k => run_conv_str (w := w3.drewN k) (c := c - p) (hy68.drewN k) HZS.out.2.symm
      have hw1 : IntKind.i64.wrap ((p : Int) + 6) = (p : Int) + 6 := IntWalk.i64_in _ (by omega)
      have hw2 : IntKind.i64.wrap ((p : Int) + 6 + (m : Int)) = (p : Int) + 6 + (m : Int) := IntWalk.i64_in _ (by omega)
      clear hA68 hbl hbw2 hownF hbel2 hb3 hy10 hy68 hy11
      by_cases hq : bodyL x = z
      · have hnx : nextF (b.drop p) = some x := by have h9 := HNF.out; rw [if_pos hq] at h9; exact h9
        rw [hq] at hcv1
        have HNX := Lib.hid (show (xs ++ [x]) ++ recsF (b.drop (p + (m + 7))) = recsF b by
          rw [← HX.out, recsF_some hnx, List.drop_drop, HXS.out.2, List.append_assoc]; rfl)
        have HEN := Lib.hid (show p + (m + 7) = endF (xs ++ [x]) by rw [endF_snoc, ← HP.out, HXS.out.2])
        clear hnx hq HNF
        go_quiet (fail)
        have hown4 := hown3.below (below_drewN (Below.refl _ _) nq)
        have hbel4 := below_drewN hbel3 nq
        have hy4 := hy10b.drewN nq
        clear hcv1 hcv2 hsl hw1 hw2 hown3 hbel3 hy10b hbw3
        generalize w3.drewN nq = w4 at *
        have hownA := hown4.below (below_alloc w4 (.cells #[.slice A10 m c10] 24))
        have hcA := new_cell w4 [.slice A10 m c10] 24 (0, 0) 0 _ rfl
        have hyAA := hy4.alloc (.cells #[.slice A10 m c10] 24)
        have hne : 0 < x.length → ∀ z, A10 = some z → (Value.slice A5 xs.length c5).ownBlock ≠ some z.block := fun _ z e e2 => by
          have h1 := (hA10 z e).1
          have h2 := HLT.out _ e2
          omega
        have HNE := Lib.hid hne
        clear hne hA10
        have hz4 := hbel4.size
        have hx9 : xs.length + 1 ≤ 1000000000 := by omega
        have hzA : w0.heap.size ≤ (w4.alloc (.cells #[.slice A10 m c10] 24)).heap.size := by simp; omega
        go_upto_region 10 with (at_builtin; refine wpList_wanted (by rfl) fun K hK => wp_append_row _ _ rfl rfl rfl hownA hcA hyAA HXS.out.2 hc10.1 HNE.out hx9 hzA ?_; intro v5' w5 hown5 hg5 hv5; refine hK _ _ ?_; clear hK K)
        have hbel5 := (hbel4.alloc hz4 (.cells #[.slice A10 m c10] 24)).grown hg5 hzA (fun k e => (hownA.lt e).1)
        clear hownA hcA hyAA hg5 hown4 hbel4 hy4
        go_wp2_with fail
        go_roundw
        case rel => exact ⟨xs ++ [x], p + (m + 7), by go_num, HNX.out, HEN.out, by omega, by simp; omega, hown5, hbel5⟩
        case measure => simp [intOf]; omega
      · have hnx : nextF (b.drop p) = none := by have h9 := HNF.out; rw [if_neg hq] at h9; exact h9
        have hse : ((strOf (bodyL x)).toList == (strOf z).toList) = false := by simpa [strOf] using hq
        have hse2 : ¬ (strOf (bodyL x)).toList = (strOf z).toList := by simpa [strOf] using hq
        have hall : recsF b = xs := by rw [← HX.out, recsF_none hnx, List.append_nil]
        have hend : endF (recsF b) = p := by rw [hall, HP.out]
        have hcl : cleanF b = (b.drop p).all (· == 255) := by unfold cleanF; rw [hend]
        have HALL := Lib.hid (And.intro hall (And.intro hend hcl))
        clear hnx hq HNF hall hend hcl
        go_quiet (fail)
        have hbwE := hbw3.drewN nq
        have hownE := hown3.below (below_drewN (Below.refl _ _) nq)
        have hbelE := below_drewN hbel3 nq
        clear hcv1 hcv2 hsl hw1 hw2 hown3 hbel3 hy10b hbw3 hse hse2
        generalize w3.drewN nq = wF at *
        obtain ⟨A', c', e5, hc5'', hrw, hA5⟩ := hownE.form
        simp only [Value.slice.injEq] at e5
        obtain ⟨rfl, -, rfl⟩ := e5
        go_wp2_with (first
          | (refine wpList_wanted (by rfl) fun K hK => wp_slice_byts _ _ _ rfl p n rfl (Or.inr ⟨_, _, rfl, rfl⟩) (Or.inl ⟨rfl, rfl⟩) hp hc ?_; intro A83 e1 e2 e3; have hy83 := e1 _ b hbwE (by rw [HN.out]; exact Nat.le_refl _) (by rw [HN.out]; exact hc); rw [List.take_of_length_le (by rw [HN.out]; exact Nat.le_refl _)] at hy83; refine hK _ _ ?_; clear hK K)
          | (go_at_call 81; refine (ref_erased A83 (n - p) _ (b.drop p) _ hy83 HDL.out (by omega)).mono ?_; rintro e w' ⟨rfl, rfl⟩))
        go_ret3
        refine ⟨A5, c5, ?_, by rw [HALL.out.1]; exact hc5, by rw [HALL.out.1]; exact hrw, hA5, hbelE⟩
        rw [HALL.out.2.2, HALL.out.2.1, HALL.out.1]
        rfl
    · have hnone := nextF_none2 (b := b.drop p) (by rw [hm, HDL.out]; exact hok)
      have hall : recsF b = xs := by rw [← HX.out, recsF_none hnone, List.append_nil]
      have hend : endF (recsF b) = p := by rw [hall, HP.out]
      have hcl : cleanF b = (b.drop p).all (· == 255) := by unfold cleanF; rw [hend]
      have HALL := Lib.hid (And.intro hall (And.intro hend hcl))
      have hcase : n < p + 2 ∨ (p + 2 ≤ n ∧ 65000 < m) ∨ (p + 2 ≤ n ∧ m ≤ 65000 ∧ n - p < m + 7) ∨ (p + 2 ≤ n ∧ m ≤ 65000 ∧ m + 7 ≤ n - p ∧ ∃ fb : UInt8, b[p + m + 6]? = some fb ∧ fb ≠ 0) := by
        by_cases a1 : n < p + 2
        · exact Or.inl a1
        by_cases a2 : 65000 < m
        · exact Or.inr (Or.inl ⟨by omega, a2⟩)
        by_cases a3 : n - p < m + 7
        · exact Or.inr (Or.inr (Or.inl ⟨by omega, by omega, a3⟩))
        · refine Or.inr (Or.inr (Or.inr ⟨by omega, by omega, by omega, b[p + m + 6]'(by have := HN.out; omega), List.getElem?_eq_getElem _, fun e => hok ⟨by omega, by omega, by omega, ?_⟩⟩))
          rw [List.getD_eq_getElem?_getD, List.getElem?_drop, show p + (m + 6) = p + m + 6 by omega, List.getElem?_eq_getElem (by have := HN.out; omega), e]
          rfl
      clear hok hnone hall hend hcl HX HP
      rcases hcase with h1 | ⟨h1, h2⟩ | ⟨h1, h2, h3⟩ | ⟨h1, h2, h3, fb, hfb, hf0⟩
      · have HR := Lib.hid (getR_past b p (by have := HN.out; omega))
        clear hm
        go_upto_region 11 with (go_at_call 80; refine (HG.out _ hbw).mono ?_; rintro e w1 ⟨rfl, mm, rfl⟩; rw [HR.out])
        have hbwE := hbw.drewN mm
        have hownE := hown.below (below_drewN (Below.refl _ _) mm)
        have hbelE := below_drewN hbel mm
        clear hown hbel hbw
        generalize wr.drewN mm = wE at *
        obtain ⟨A', c', e5, hc5', hrw, hA5⟩ := hownE.form
        simp only [Value.slice.injEq] at e5
        obtain ⟨rfl, -, rfl⟩ := e5
        go_wp2_with (first
          | (refine wpList_wanted (by rfl) fun K hK => wp_slice_byts _ _ _ rfl p n rfl (Or.inr ⟨_, _, rfl, rfl⟩) (Or.inl ⟨rfl, rfl⟩) hp hc ?_; intro A83 e1 e2 e3; have hy83 := e1 _ b hbwE (by rw [HN.out]; exact Nat.le_refl _) (by rw [HN.out]; exact hc); rw [List.take_of_length_le (by rw [HN.out]; exact Nat.le_refl _)] at hy83; refine hK _ _ ?_; clear hK K)
          | (go_at_call 81; refine (ref_erased A83 (n - p) _ (b.drop p) _ hy83 HDL.out (by omega)).mono ?_; rintro e w' ⟨rfl, rfl⟩))
        go_ret3
        refine ⟨A5, c5, ?_, by rw [HALL.out.1]; exact hc5, by rw [HALL.out.1]; exact hrw, hA5, hbelE⟩
        rw [HALL.out.2.2, HALL.out.2.1, HALL.out.1]
        rfl
      · have HR := Lib.hid (hm ▸ getR_at b p (by have := HN.out; omega))
        clear hm
        go_upto_region 11 with (go_at_call 80; refine (HG.out _ hbw).mono ?_; rintro e w1 ⟨rfl, mm, rfl⟩; rw [HR.out])
        have hbwE := hbw.drewN mm
        have hownE := hown.below (below_drewN (Below.refl _ _) mm)
        have hbelE := below_drewN hbel mm
        clear hown hbel hbw
        generalize wr.drewN mm = wE at *
        obtain ⟨A', c', e5, hc5', hrw, hA5⟩ := hownE.form
        simp only [Value.slice.injEq] at e5
        obtain ⟨rfl, -, rfl⟩ := e5
        go_wp2_with (first
          | (refine wpList_wanted (by rfl) fun K hK => wp_slice_byts _ _ _ rfl p n rfl (Or.inr ⟨_, _, rfl, rfl⟩) (Or.inl ⟨rfl, rfl⟩) hp hc ?_; intro A83 e1 e2 e3; have hy83 := e1 _ b hbwE (by rw [HN.out]; exact Nat.le_refl _) (by rw [HN.out]; exact hc); rw [List.take_of_length_le (by rw [HN.out]; exact Nat.le_refl _)] at hy83; refine hK _ _ ?_; clear hK K)
          | (go_at_call 81; refine (ref_erased A83 (n - p) _ (b.drop p) _ hy83 HDL.out (by omega)).mono ?_; rintro e w' ⟨rfl, rfl⟩))
        go_ret3
        refine ⟨A5, c5, ?_, by rw [HALL.out.1]; exact hc5, by rw [HALL.out.1]; exact hrw, hA5, hbelE⟩
        rw [HALL.out.2.2, HALL.out.2.1, HALL.out.1]
        rfl
      · have HR := Lib.hid (hm ▸ getR_at b p (by have := HN.out; omega))
        have h3i : (n : Int) - (p : Int) < (m : Int) + 7 := by omega
        clear hm
        go_upto_region 11 with (go_at_call 80; refine (HG.out _ hbw).mono ?_; rintro e w1 ⟨rfl, mm, rfl⟩; rw [HR.out])
        have hbwE := hbw.drewN mm
        have hownE := hown.below (below_drewN (Below.refl _ _) mm)
        have hbelE := below_drewN hbel mm
        clear hown hbel hbw
        generalize wr.drewN mm = wE at *
        obtain ⟨A', c', e5, hc5', hrw, hA5⟩ := hownE.form
        simp only [Value.slice.injEq] at e5
        obtain ⟨rfl, -, rfl⟩ := e5
        go_wp2_with (first
          | (refine wpList_wanted (by rfl) fun K hK => wp_slice_byts _ _ _ rfl p n rfl (Or.inr ⟨_, _, rfl, rfl⟩) (Or.inl ⟨rfl, rfl⟩) hp hc ?_; intro A83 e1 e2 e3; have hy83 := e1 _ b hbwE (by rw [HN.out]; exact Nat.le_refl _) (by rw [HN.out]; exact hc); rw [List.take_of_length_le (by rw [HN.out]; exact Nat.le_refl _)] at hy83; refine hK _ _ ?_; clear hK K)
          | (go_at_call 81; refine (ref_erased A83 (n - p) _ (b.drop p) _ hy83 HDL.out (by omega)).mono ?_; rintro e w' ⟨rfl, rfl⟩))
        go_ret3
        refine ⟨A5, c5, ?_, by rw [HALL.out.1]; exact hc5, by rw [HALL.out.1]; exact hrw, hA5, hbelE⟩
        rw [HALL.out.2.2, HALL.out.2.1, HALL.out.1]
        rfl
      · have HR := Lib.hid (hm ▸ getR_at b p (by have := HN.out; omega))
        have h3i : (m : Int) + 7 ≤ (n : Int) - (p : Int) := by omega
        obtain ⟨g, o, rfl, hcf⟩ := hbw.at (k := p + m + 6) (by have := HN.out; omega)
        rw [List.getElem?_eq_getElem (by have := HN.out; omega)] at hfb
        rw [Option.some.inj hfb] at hcf
        have hf1 : ¬ (fb.toNat : Int) = 0 := fun e => hf0 (UInt8.toNat_inj.1 (by simpa using e))
        have hf2 : ((fb.toNat : Int) != 0) = true := by rw [bne_iff_ne]; exact hf1
        generalize fb.toNat = fv at *
        clear hm hfb hf0
        go_upto_region 11 with (go_at_call 80; refine (HG.out _ hbw).mono ?_; rintro e w1 ⟨rfl, mm, rfl⟩; rw [HR.out])
        clear hcf
        have hbwE := hbw.drewN mm
        have hownE := hown.below (below_drewN (Below.refl _ _) mm)
        have hbelE := below_drewN hbel mm
        clear hown hbel hbw
        generalize wr.drewN mm = wE at *
        obtain ⟨A', c', e5, hc5', hrw, hA5⟩ := hownE.form
        simp only [Value.slice.injEq] at e5
        obtain ⟨rfl, -, rfl⟩ := e5
        go_wp2_with (first
          | (refine wpList_wanted (by rfl) fun K hK => wp_slice_byts _ _ _ rfl p n rfl (Or.inr ⟨_, _, rfl, rfl⟩) (Or.inl ⟨rfl, rfl⟩) hp hc ?_; intro A83 e1 e2 e3; have hy83 := e1 _ b hbwE (by rw [HN.out]; exact Nat.le_refl _) (by rw [HN.out]; exact hc); rw [List.take_of_length_le (by rw [HN.out]; exact Nat.le_refl _)] at hy83; refine hK _ _ ?_; clear hK K)
          | (go_at_call 81; refine (ref_erased A83 (n - p) _ (b.drop p) _ hy83 HDL.out (by omega)).mono ?_; rintro e w' ⟨rfl, rfl⟩))
        go_ret3
        refine ⟨A5, c5, ?_, by rw [HALL.out.1]; exact hc5, by rw [HALL.out.1]; exact hrw, hA5, hbelE⟩
        rw [HALL.out.2.2, HALL.out.2.1, HALL.out.1]
        rfl
end Go.Proofs.Ytcdgpioljilgeaa
