/- The walks of the laws on records: FrameTells, FrameFlags. -/
import Derived.Test.YtcdgpioljilgeaaRefScan
import Derived.Test.YtcdgpioljilgeaaHelp
import Derived.RegionTactic
set_option linter.unusedVariables false
set_option maxRecDepth 100000
set_option linter.unusedSimpArgs false
namespace Go.Proofs.Ytcdgpioljilgeaa
open Go.RowKit

set_option maxHeartbeats 2000000 in
theorem same_rows (A : Option Addr) (n c : Nat) (xs : List (List UInt8)) (A' : Option Addr) (n' c' : Nat) (ys : List (List UInt8)) (w : World) (hr : Rows w A xs) (hn : xs.length = n) (hr' : Rows w A' ys) (hn' : ys.length = n') (hl : n ≤ 1000000000) (hl' : n' ≤ 1000000000) :
    Calls Try.prog 48 #[.slice A n c, .slice A' n' c', .func (.func 23) #[] #[]] w fun e w' => e = .returned (.bool (decide (xs = ys))) ∧ ∃ m, w' = w.drewN m := by
  by_cases hne : n = n'
  · subst hne
    have HN := Lib.hid (And.intro hn hn')
    clear hn hn'
    obtain ⟨w0, rfl⟩ : ∃ w0 : World, w0 = w := ⟨_, rfl⟩
    have hnn : ((n : Int) != (n : Int)) = false := by simp
    go_enter Try.func48, Try.ntmps48
    go_upto_region 4 with fail
    go_loopw [7] (fun v7 wr => ∃ k : Nat, k ≤ n ∧ v7 = .int .i64 k ∧ Hid (xs.take k = ys.take k) ∧ Hid (∃ m, wr = w0.drewN m) ∧ Rows wr A xs ∧ Rows wr A' ys) (fun v7 _ => n - (intOf v7).toNat)
    case atStart => exact ⟨0, Nat.zero_le _, rfl, (rfl : ([] : List (List UInt8)) = []), ⟨0, rfl⟩, hr, hr'⟩
    case round =>
      clear hr hr'
      obtain ⟨k, hk, rfl, hpre, hw, hr, hr'⟩ := hrel
      by_cases hlt : k < n
      · have hkx : k < xs.length := by rw [HN.out.1]; exact hlt
        have hky : k < ys.length := by rw [HN.out.2]; exact hlt
        obtain ⟨b, off, B1, c1, rfl, hc1, hb1⟩ := hr k hkx
        obtain ⟨b2, off2, B2, c2, rfl, hc2, hb2⟩ := hr' k hky
        have q0 : (0 : Int) ≤ (k : Int) := by omega
        have q1 : (k : Int) < (n : Int) := by omega
        have hrn := fun j => hr.below (below_drewN (Below.refl wr.heap.size wr) j)
        have hrn' := fun j => hr'.below (below_drewN (Below.refl wr.heap.size wr) j)
        have HRN := Lib.hid (And.intro hrn hrn')
        have HB := Lib.hid (fun j => help_bytes B1 xs[k].length c1 xs[k] B2 ys[k].length c2 ys[k] (wr.drewN j) (hb1.drewN j) rfl (hb2.drewN j) rfl)
        clear hr hr' hrn hrn' hb1 hb2
        by_cases hxy : xs[k] = ys[k]
        · have Hpre : Hid (xs.take (k + 1) = ys.take (k + 1)) := by
            show _ = _
            rw [List.take_succ_eq_append_getElem hkx, List.take_succ_eq_append_getElem hky, hpre.out, hxy]
          have hxx : (xs[k] == ys[k]) = true := by simpa using hxy
          clear hxy hpre
          generalize xs[k] = x at *
          generalize ys[k] = y at *
          obtain ⟨lx, hlx⟩ : ∃ lx, x.length = lx := ⟨_, rfl⟩
          obtain ⟨ly, hly⟩ : ∃ ly, y.length = ly := ⟨_, rfl⟩
          rw [hlx] at hc1 HB
          rw [hly] at hc2 HB
          rw [hxx] at HB
          clear hlx hly hxx
          go_upto_region 6 with fail
          go_quiet ((go_at_call 23; exact quiet_left (HB.out _)))
          clear hc1 hc2
          go_wp2_with fail
          go_roundw
          case rel => exact ⟨k + 1, by omega, by go_num, Hpre, (by obtain ⟨m, hm⟩ := hw.out; exact ⟨m + nq, by rw [hm, drewN_add]⟩), HRN.out.1 nq, HRN.out.2 nq⟩
          case measure => simp [intOf]; omega
        · have hxx : (xs[k] == ys[k]) = false := beq_eq_false_iff_ne.2 hxy
          have Hll := Lib.hid (show decide (xs = ys) = false from decide_eq_false (by rintro rfl; exact hxy rfl))
          clear hxy hpre
          generalize xs[k] = x at *
          generalize ys[k] = y at *
          obtain ⟨lx, hlx⟩ : ∃ lx, x.length = lx := ⟨_, rfl⟩
          obtain ⟨ly, hly⟩ : ∃ ly, y.length = ly := ⟨_, rfl⟩
          rw [hlx] at hc1 HB
          rw [hly] at hc2 HB
          rw [hxx] at HB
          clear hlx hly hxx
          go_upto_region 6 with fail
          go_quiet ((go_at_call 23; exact quiet_left (HB.out _)))
          clear hc1 hc2
          go_wp2_with fail
          go_ret
          exact ⟨ret_bool Hll.out.symm, (by obtain ⟨m, hm⟩ := hw.out; exact ⟨m + nq, by rw [hm, drewN_add]⟩)⟩
      · obtain rfl : k = n := by omega
        have Hll := Lib.hid (show decide (xs = ys) = true from decide_eq_true (by
          have h1 := hpre.out
          rw [List.take_of_length_le (by rw [HN.out.1]; exact Nat.le_refl _), List.take_of_length_le (by rw [HN.out.2]; exact Nat.le_refl _)] at h1
          exact h1))
        clear hpre
        go_wp2_with fail
        go_ret
        exact ⟨ret_bool Hll.out.symm, hw.out⟩
  · have hne1 : ((n : Int) != (n' : Int)) = true := by rw [bne_iff_ne]; omega
    have hd : decide (xs = ys) = false := decide_eq_false (by rintro rfl; exact hne (hn.symm.trans hn'))
    have HD := Lib.hid hd
    clear hd hn hn' hr hr'
    go_enter Try.func48, Try.ntmps48
    go_wp2_with fail
    go_ret
    rw [HD.out]
    exact ⟨rfl, 0, rfl⟩

theorem byts_cells' (w : World) (l : List UInt8) (q : Nat × Nat) : Byts (w.alloc (.cells (l.map fun x => Value.int .u8 (x.toNat : Int)).toArray 5 q)) (some ⟨w.heap.size, 0, none⟩) l :=
  Or.inr ⟨_, _, rfl, fun i hi => by
    rw [Nat.zero_add]
    exact new_cell w _ _ q i _ (by rw [List.getElem?_map, List.getElem?_eq_getElem hi]; rfl)⟩

/-- The record of one byte. -/
theorem rec_seven : bodyL [7] ++ [0] = recL [7] := rfl
theorem recs_one (x r : List UInt8) (hx : x.length ≤ 65000) (hr : r = []) : recsF (recL x ++ r) = [x] ∧ endF (recsF (recL x ++ r)) = x.length + 7 ∧ cleanF (recL x ++ r) = true := by
  subst hr
  have h1 := recsF_all [x] [] (by simpa using hx)
  have e : ([x].map recL).flatten ++ [] = recL x ++ [] := by simp
  rw [e] at h1
  have h2 : recsF ([] : List UInt8) = [] := rfl
  rw [h2] at h1
  have h3 : endF (recsF (recL x ++ [])) = x.length + 7 := by rw [h1]; simp [endF]
  refine ⟨h1, h3, ?_⟩
  unfold cleanF
  rw [h3, List.drop_of_length_le (by rw [List.append_nil, recL_length]; exact Nat.le_refl _)]
  rfl

set_option maxHeartbeats 2000000 in
theorem awake07 (w : World) : Calls Try.prog 43 #[] w fun e w' => e = .returned (.bool true) ∧ Below w.heap.size w w' := by
  obtain ⟨w0, rfl⟩ : ∃ w0 : World, w0 = w := ⟨_, rfl⟩
  have hs0 : w0.heap.size ≤ w0.heap.size := Nat.le_refl _
  obtain ⟨r1, r2, r3⟩ := recs_one [7] [] (by decide) rfl
  have hrl : (recL [7] ++ []).length = 8 := by rw [List.append_nil, recL_length]; rfl
  have happ : bodyL [7] ++ [0] = recL [7] ++ [] := by simp [recL]
  have hxx : (([7] : List UInt8) == [7]) = true := by decide
  have HXX := Lib.hid hxx
  generalize recL [7] ++ [] = b at *
  have HB := Lib.hid (And.intro happ (And.intro hrl (And.intro r1 (And.intro r2 r3))))
  have hbl : (bodyL [7]).length = 7 := by rw [bodyL_length]; rfl
  have HBL := Lib.hid hbl
  clear happ hrl r1 r2 r3 hbl hxx
  have o1 := byts_cells' w0 [7] (0, 0)
  go_enter Try.func43, Try.ntmps43
  go_upto_region 2 with (go_at_call 44; refine (frame_body _ 1 1 [7] _ o1 rfl (by decide)).mono ?_; rintro e w1 ⟨A1, c1, rfl, hc1, hown1, hy1, hA1, hb1⟩)
  have z1 := hb1.size
  have hb10 := (below_alloc w0 (.cells #[.int .u8 7] 5)).trans (hb1.mono (by simp))
  have hs10 := hb10.size
  have o2 := byts_cells' w1 [0] (0, 0)
  have hownA := hown1.alloc (.cells #[.int .u8 0] 5)
  have hzA : (w0.alloc (.cells #[.int .u8 7] 5)).heap.size ≤ (w1.alloc (.cells #[.int .u8 0] 5)).heap.size := by rw [World.size_alloc (w := w1)]; exact Nat.le_succ_of_le z1
  have hla : (bodyL [7]).length + [(0 : UInt8)].length ≤ 140737488355328 := by rw [HBL.out]; decide
  clear hb1 hy1 hA1 o1 hown1
  go_upto_region 3 with (first
    | (at_builtin; refine wpList_wanted (by rfl) fun K hK => wp_append_byts _ _ rfl rfl rfl hownA o2 rfl hla hzA ?_; intro v2 w2 hown2 hg2 hv2; refine hK _ _ ?_; clear hK K; rw [HB.out.1] at hown2; obtain ⟨A2, c2, rfl, hc2, hy2, -⟩ := hown2.byts; rw [HB.out.2.1] at hc2 ⊢; have hb20 := ((hb10.alloc hs10 (.cells #[.int .u8 0] 5)).grown hg2 (by rw [World.size_alloc]; omega) (fun k e => Nat.le_trans (by rw [World.size_alloc]; omega) (hownA.lt e).1)))
    | (go_at_call 46; refine (frame_scan A2 8 c2 b _ hy2 HB.out.2.1 hc2.1 hc2.2 (by decide)).mono ?_; rintro e w3 ⟨A3, c3, rfl, hc3, hrw3, hA3, hb3⟩; rw [HB.out.2.2.2.1, HB.out.2.2.1, HB.out.2.2.2.2]))
  rw [HB.out.2.2.1] at hrw3
  obtain ⟨g, o, B3, cB, rfl, hcell, hby⟩ := hrw3 0 (by simp)
  have hb30 := hb20.trans (hb3.mono hb20.size)
  have hs30 := hb30.size
  have hcell' : w3.cell? ⟨g, o, none⟩ = some (.slice B3 1 cB) := by simpa using hcell
  have hby' : Byts w3 B3 [7] := hby
  have o3 := byts_cells' w3 [7] (0, 0)
  have hbyA := hby'.alloc (.cells #[.int .u8 7] 5)
  clear hrw3 hcell hby hb3 hb20 hownA hg2 hv2 hown2 hy2 o2
  go_wp2_with (first
    | (go_at_call 23; refine (help_bytes _ _ _ _ _ _ _ _ _ hbyA rfl o3 rfl).mono ?_; rintro e w' ⟨rfl, rfl⟩; rw [HXX.out])
    | (go_at_call 49; refine (frame_size 1 _ (by decide) (by decide)).mono ?_; rintro e w' ⟨rfl, rfl⟩))
  go_ret
  exact ⟨rfl, hb30.alloc hs30 _⟩

set_option maxHeartbeats 8000000 in
theorem frameTells_walk {w : World} (A : Option Addr) (c : Nat) (b : List UInt8) (hcap : b.length ≤ c ∧ c ≤ maxLen) (hb : Byts w A b) (hl : b.length ≤ 140737488351232) (x : Int) (wx : (Lit.int .i64 x).wf = true) :
    Calls Try.prog 7 #[.slice A b.length c, .int .i64 x] w fun e w' => e = .returned (.bool true) ∧ Below w.heap.size w w' := by
  obtain ⟨w0, rfl⟩ : ∃ w0 : World, w0 = w := ⟨_, rfl⟩
  have hs0 : w0.heap.size ≤ w0.heap.size := Nat.le_refl _
  obtain ⟨n, hn⟩ : ∃ n, b.length = n := ⟨_, rfl⟩
  rw [hn] at hcap hl ⊢
  have HN := Lib.hid hn
  clear hn
  by_cases h2000 : 2000 < n
  · go_enter Try.func7, Try.ntmps7
    go_wp2_with (go_at_call 43; refine (awake07 _).mono ?_; rintro e w2 ⟨rfl, hb2⟩)
    go_ret
    exact ⟨rfl, hb2⟩
  obtain ⟨r, hr, hr1, hr2⟩ : ∃ r : Int, Hid (x.tmod 1099511627776 = r) ∧ -1099511627776 ≤ r ∧ r ≤ 1099511627776 := by
    refine ⟨_, rfl, ?_, ?_⟩
    · have := Int.lt_tmod_of_pos x (b := 1099511627776) (by decide)
      omega
    · have := Int.tmod_lt_of_pos x (b := 1099511627776) (by decide)
      omega
  obtain ⟨rs, hrs⟩ : ∃ rs, (recsF b).length = rs := ⟨_, rfl⟩
  have hrsl : rs ≤ n := by
    have h1 := scanF_le b.length b
    have h2 : (recsF b).length ≤ endF (recsF b) := by
      have : ∀ l : List (List UInt8), l.length ≤ endF l := fun l => by
        induction l with
        | nil => simp
        | cons y l ih => rw [endF_cons, List.length_cons]; omega
      exact this _
    have h3 := HN.out
    unfold recsF at h2 hrs
    omega
  have hbl := bodyL_length b
  rw [HN.out] at hbl
  have hxx : (bodyL b == bodyL b) = true := by simp
  have HR := Lib.hid hrs
  have HBL := Lib.hid hbl
  have HXX := Lib.hid hxx
  have hq : ∀ q : Bool, (q == q) = true := by simp
  have hq2 : ∀ q : Int, (q == q) = true := by simp
  have wx := wf_i64 wx
  clear hrs hbl hxx
  go_enter Try.func7, Try.ntmps7
  go_upto_region 4 with (go_at_call 37; refine (own_byte _ _ _ b 71 _ hb HN.out.symm (by rw [HN.out]; omega)).mono ?_; rintro e w1 ⟨v1, rfl, g, rfl, hin, hb1, hg1⟩; rw [HN.out])
  have hib : Byts w1 (some ⟨g, 0, none⟩) b := by have := hin.take b.length; simpa using this
  have hbb1 := hb.below hb1
  go_upto_region 5 with (go_at_call 44; refine (frame_body _ n _ b _ hib HN.out (by omega)).mono ?_; rintro e w2 ⟨A6, c6, rfl, hc6, -, hy6, -, hb2⟩)
  have hb20 := hb1.trans (hb2.mono hb1.size)
  have hbb2 := hb.below hb20
  have hi2 := hin.below hb2
  have hib2 := hib.below hb2
  clear hib hin hb1 hb2 hbb1
  go_upto_region 6 with (go_at_call 45; refine (ref_body _ n _ b _ hbb2 HN.out (by omega)).mono ?_; rintro e w3 ⟨A8, c8, rfl, hc8, -, hy8, -, hb3⟩)
  have hb30 := hb20.trans (hb3.mono hb20.size)
  have hbb3 := hb.below hb30
  have hi3 := hi2.below hb3
  have hib3 := hib2.below hb3
  have hy6b := hy6.below hb3
  clear hib2 hi2 hb20 hb3 hbb2 hy6
  go_upto_region 7 with (go_at_call 46; refine (frame_scan _ n (n + 3) b _ hib3 HN.out (by omega) (by unfold maxLen; omega) (by omega)).mono ?_; rintro e w4 ⟨A10, c10, rfl, hc10, hrw10, hA10, hb4⟩; rw [HR.out])
  have hb40 := hb30.trans (hb4.mono hb30.size)
  have hbb4 := hb.below hb40
  have hi4 := hi3.below hb4
  have hy6c := hy6b.below hb4
  have hy8c := hy8.below hb4
  clear hib3 hi3 hb30 hb4 hbb3 hy6b hy8
  go_upto_region 8 with (go_at_call 47; refine (ref_scan _ n c b _ hbb4 HN.out hcap.1 hcap.2 (by omega)).mono ?_; rintro e w5 ⟨A13, c13, rfl, hc13, hrw13, hA13, hb5⟩; rw [HR.out])
  have hb50 := hb40.trans (hb5.mono hb40.size)
  have hi5 := hi4.below hb5
  have hy6d := hy6c.below hb5
  have hy8d := hy8c.below hb5
  have hrw10b := hrw10.below hb5
  have hs50 := hb50.size
  clear hi4 hb40 hb5 hbb4 hy6c hy8c hrw10
  generalize hend : (endF (recsF b) : Int) = en at *
  generalize hcln : cleanF b = cl at *
  go_upto_region 9 with fail
  rw [hr.out]
  go_wp2_with (go_at_call 43; refine (awake07 _).mono ?_; rintro e w6 ⟨rfl, hb6⟩)
  have hb60 := hb50.trans (hb6.mono hs50)
  have hbb6 := hb.below hb60
  have hi6 := hi5.below hb6
  have hy6e := hy6d.below hb6
  have hy8e := hy8d.below hb6
  have hr10 := hrw10b.below hb6
  have hr13 := hrw13.below hb6
  clear hi5 hb50 hb6 hy6d hy8d hrw10b hrw13
  refine (help_bytes A6 (n + 6) c6 (bodyL b) A8 (n + 6) c8 (bodyL b) _ hy6e HBL.out.symm hy8e HBL.out.symm).mono ?_
  rintro e w' ⟨rfl, rfl⟩
  rw [HXX.out]
  go_wp2_with fail
  refine (same_rows A10 rs c10 (recsF b) A13 rs c13 (recsF b) _ hr10 HR.out hr13 HR.out (by omega) (by omega)).mono ?_
  rintro e w7 ⟨rfl, m7, rfl⟩
  rw [decide_eq_true (rfl : recsF b = recsF b)]
  have hi7 := hi6.drewN m7
  have hbb7 := hbb6.drewN m7
  clear hi6 hbb6 hr10 hr13
  go_wp2_with (first
    | (go_at_call 49; refine (frame_size r _ (by omega) (by omega)).mono ?_; rintro e w' ⟨rfl, rfl⟩)
    | (go_at_call 39; refine (kept_byte _ n (n + 3) _ n c b 71 _ hi7 HN.out.symm (by rw [HN.out]; exact Nat.le_refl _) (by omega) hbb7 HN.out.symm (by rw [HN.out]; omega)).mono ?_; rintro e w8 ⟨rfl, m8, rfl⟩))
  go_ret
  exact ⟨rfl, below_drewN hb60 _⟩
end Go.Proofs.Ytcdgpioljilgeaa
