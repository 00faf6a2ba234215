/- The walk of the law FrameFlags. -/
import Derived.Test.YtcdgpioljilgeaaLawFrame
import Derived.Test.YtcdgpioljilgeaaPlay
set_option linter.unusedVariables false
set_option maxRecDepth 100000
set_option linter.unusedSimpArgs false
namespace Go.Proofs.Ytcdgpioljilgeaa
open Go.RowKit

theorem recs_flag (b : List UInt8) (f : UInt8) (hb : b.length ≤ 300) (hf : f ≠ 0) : recsF (bodyL b ++ [f]) = [] ∧ cleanF (bodyL b ++ [f]) = false := by
  have e1 : (bodyL b ++ [f]).take 2 = low b.length 2 := by
    unfold bodyL
    rw [List.append_assoc, List.take_append_of_le_length (by rw [low_length]; omega), List.take_of_length_le (by rw [low_length]; omega)]
  have e2 : num (low b.length 2) = b.length := by rw [num_low']; exact Nat.mod_eq_of_lt (by omega)
  have e5 : (bodyL b ++ [f]).getD (b.length + 6) 0 = f := by
    rw [List.getD_eq_getElem?_getD, List.getElem?_append_right (by rw [bodyL_length]; omega), bodyL_length]
    simp
  have hn : nextF (bodyL b ++ [f]) = none := by
    unfold nextF
    rw [e1, e2, e5, if_neg (fun h => hf h.2.2.2.2)]
  have hr := recsF_none hn
  refine ⟨hr, ?_⟩
  unfold cleanF
  rw [hr]
  show ((bodyL b ++ [f]).drop 0).all _ = false
  rw [List.drop_zero, List.all_eq_false]
  have h1 : (bodyL b ++ [f])[1]? = some (UInt8.ofNat (b.length / 2 ^ 8)) := by
    unfold bodyL
    rw [List.append_assoc, List.getElem?_append_left (by rw [low_length]; omega)]
    simp [low, List.range_succ]
  refine ⟨UInt8.ofNat (b.length / 2 ^ 8), List.mem_of_getElem? h1, ?_⟩
  intro h
  have h2 := beq_iff_eq.1 h
  have h3 : (UInt8.ofNat (b.length / 2 ^ 8)).toNat = 255 := by rw [h2]; rfl
  simp at h3
  omega

set_option maxHeartbeats 8000000 in
theorem frameFlags_walk {w : World} (A : Option Addr) (c : Nat) (b : List UInt8) (hcap : b.length ≤ c ∧ c ≤ maxLen) (hb : Byts w A b) (hl : b.length ≤ 140737488351232) (f0 : Int) (wf0 : (Lit.int .u8 f0).wf = true) (x : Int) (wx : (Lit.int .i64 x).wf = true) :
    Calls Try.prog 9 #[.slice A b.length c, .int .u8 f0, .int .i64 x] w fun e w' => e = .returned (.bool true) ∧ Below w.heap.size w w' := by
  obtain ⟨w0, rfl⟩ : ∃ w0 : World, w0 = w := ⟨_, rfl⟩
  have hs0 : w0.heap.size ≤ w0.heap.size := Nat.le_refl _
  obtain ⟨fl, rfl⟩ := byte_of (wf_u8 wf0)
  obtain ⟨n, hn⟩ : ∃ n, b.length = n := ⟨_, rfl⟩
  rw [hn] at hcap hl ⊢
  have HN := Lib.hid hn
  by_cases h300 : 300 < n
  · clear hn
    go_enter Try.func9, Try.ntmps9
    go_wp2_with (go_at_call 43; refine (awake07 _).mono ?_; rintro e w2 ⟨rfl, hb2⟩)
    go_ret
    exact ⟨rfl, hb2⟩
  obtain ⟨k, hk⟩ : ∃ k, pmod x 20 = k := ⟨_, rfl⟩
  have hk20 : k < 20 := by rw [← hk]; exact (pmod_is x 20 (by omega) (by omega)).2
  have HK := Lib.hid (show wrap64 ((IntKind.u64.wrap x).tmod 20) = (k : Int) by rw [← hk]; exact (pmod_is x 20 (by omega) (by omega)).1)
  have hbl := bodyL_length b
  rw [hn] at hbl
  have hBl : (bodyL b ++ [fl]).length = n + 7 := by rw [List.length_append, hbl]; rfl
  have hcase : ∃ (rs en : Nat) (cl fz : Bool), (recsF (bodyL b ++ [fl])).length = rs ∧ endF (recsF (bodyL b ++ [fl])) = en ∧ cleanF (bodyL b ++ [fl]) = cl ∧ ((fl.toNat : Int) == 0) = fz ∧
      ((rs : Int) == 1) = fz ∧ ((en : Int) == (n : Int) + 7) = fz ∧ cl = fz := by
    by_cases hf : fl = 0
    · subst hf
      obtain ⟨r1, r2, r3⟩ := recs_one b [] (by omega) rfl
      rw [List.append_nil] at r1 r2 r3
      refine ⟨1, n + 7, true, true, by unfold recL at r1; rw [r1]; rfl, by unfold recL at r2; rw [r2, hn], r3, rfl, rfl, by simp, rfl⟩
    · obtain ⟨r1, r3⟩ := recs_flag b fl (by omega) hf
      refine ⟨0, 0, false, false, by rw [r1]; rfl, by rw [r1]; rfl, r3, ?_, rfl, ?_, rfl⟩
      · rw [beq_eq_false_iff_ne]
        exact fun e => hf (UInt8.toNat_inj.1 (by simpa using e))
      · rw [beq_eq_false_iff_ne]; omega
  obtain ⟨rs, en, cl, fz, hrs, hen, hcl, hfz, hz1, hz2, rfl⟩ := hcase
  have HR := Lib.hid (And.intro hrs (And.intro hen hcl))
  have HBL := Lib.hid hbl
  have HB2 := Lib.hid hBl
  have HFZ := Lib.hid (And.intro hfz (And.intro hz1 hz2))
  clear hn hk hbl hBl hrs hen hcl hfz hz1 hz2
  obtain ⟨N2, hN2⟩ : ∃ N2, 64990 + k = N2 := ⟨_, rfl⟩
  have hN2b : N2 ≤ 65010 := by omega
  have HN2 := Lib.hid (show wrap64 ((64990 : Int) + (k : Int)) = (N2 : Int) by unfold wrap64; omega)
  have hmk := fun W => run_make_zs N2 (by omega) W
  have hq : ∀ q : Bool, (q == q) = true := by simp
  have hz0 : (List.replicate N2 (0 : UInt8)).length = N2 := List.length_replicate
  have HZ0 := Lib.hid hz0
  clear hz0 hN2
  go_enter Try.func9, Try.ntmps9
  go_upto_region 4 with (go_at_call 44; refine (frame_body _ n _ b _ hb HN.out (by omega)).mono ?_; rintro e w1 ⟨A7, c7, rfl, hc7, -, hy7, -, hb1⟩)
  have hs1 := Nat.le_refl w1.heap.size
  have hs10 := hb1.size
  have hlb : (bodyL b).length ≤ 140737488355328 := by rw [HBL.out]; omega
  have hlb2 : (bodyL b).length + [fl].length ≤ 140737488355328 := by rw [HBL.out]; simp; omega
  go_upto_region 5 with (first
    | (at_builtin; refine wpList_wanted (by rfl) fun K hK => wp_clone_byts _ rfl rfl hy7 HBL.out.symm hlb hs1 ?_; intro v2 w2 hown2 hb2 hz2; have o2 := byts_cells' w2 [fl] (0, 0); have hownA := hown2.alloc (.cells #[.int .u8 (fl.toNat : Int)] 5); have hzA : w1.heap.size ≤ (w2.alloc (.cells #[.int .u8 (fl.toNat : Int)] 5)).heap.size := (by have := hb2.size; rw [World.size_alloc]; omega); refine hK _ _ ?_; clear hK K)
    | (at_builtin; refine wpList_wanted (by rfl) fun K hK => wp_append_byts _ _ rfl rfl rfl hownA o2 rfl hlb2 hzA ?_; intro v3 w3 hown3 hg3 hv3; refine hK _ _ ?_; clear hK K; obtain ⟨A3, c3, rfl, hc3, hy3, -⟩ := hown3.byts; rw [HB2.out] at hc3 ⊢; have hb30 := ((hb1.trans (hb2.mono hs10)).alloc (Nat.le_trans hs10 hb2.size) (.cells #[.int .u8 (fl.toNat : Int)] 5)).grown hg3 (Nat.le_trans hs10 hzA) (fun k e => Nat.le_trans hs10 (hownA.lt e).1))
    | (go_at_call 46; refine (frame_scan A3 (n + 7) c3 (bodyL b ++ [fl]) _ hy3 HB2.out hc3.1 hc3.2 (by omega)).mono ?_; rintro e w4 ⟨A4, c4, rfl, hc4, -, -, hb4⟩; rw [HR.out.1, HR.out.2.1, HR.out.2.2]))
  have hb40 := hb30.trans (hb4.mono hb30.size)
  have hs40 := hb40.size
  clear hb1 hb30 hb4 hownA o2 hg3 hv3 hown3 hown2 hb2 hy7 hy3 hz2 hzA
  go_upto_region 6 with fail
  rw [HK.out]
  rw [HN2.out]
  have hoz := (own_zs (N2) (by omega) w4 w4.heap.size (Nat.le_refl _)).read
  have hb4z := hb40.alloc hs40 (.cells (zsN (N2)).toArray 5 (0, 0))
  have hs4z := hb4z.size
  by_cases hbig : 65000 < N2
  · have hle : ¬ (N2 : Int) ≤ 65000 := by omega
    go_upto_region 7 with (go_at_call 44; refine (frame_body_big _ (N2) _ _ hbig (by omega)).mono ?_; rintro e w5 ⟨rfl, rfl⟩)
    go_wp2_with (go_at_call 43; refine (awake07 _).mono ?_; rintro e w6 ⟨rfl, hb6⟩; have hq1 := HFZ.out.1; have hq2 := HFZ.out.2.1; have hq3 := HFZ.out.2.2)
    go_ret
    exact ⟨congrArg (fun q => Ending.returned (Value.bool q)) (by simp; omega), hb4z.trans (hb6.mono hs4z)⟩
  · have hle : (N2 : Int) ≤ 65000 := by omega
    go_upto_region 7 with (go_at_call 44; refine (frame_body _ (N2) _ _ _ hoz HZ0.out (by omega)).mono ?_; rintro e w5 ⟨A5, c5, rfl, hc5, -, -, -, hb5⟩)
    have hb50 := hb4z.trans (hb5.mono hs4z)
    have hs50 := hb50.size
    go_wp2_with (go_at_call 43; refine (awake07 _).mono ?_; rintro e w6 ⟨rfl, hb6⟩; have hq1 := HFZ.out.1; have hq2 := HFZ.out.2.1; have hq3 := HFZ.out.2.2)
    go_ret
    exact ⟨rfl, hb50.trans (hb6.mono hs50)⟩
end Go.Proofs.Ytcdgpioljilgeaa
