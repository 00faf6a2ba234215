/- The walk of the law HalfCounts. -/
import Derived.Test.YtcdgpioljilgeaaLawHalf4
import Derived.Test.YtcdgpioljilgeaaRowsB
import Derived.Test.YtcdgpioljilgeaaLawFrame
import Derived.RegionTactic
set_option linter.unusedVariables false
set_option maxRecDepth 100000
set_option linter.unusedSimpArgs false
namespace Go.Proofs.Ytcdgpioljilgeaa
open Go.RowKit

/-- A row of one slice that the call makes. -/
theorem own_row1 (w : World) (A : Option Addr) (n c B : Nat) (y : List UInt8) (hy : Byts w A y) (hn : y.length = n) (hB : B ≤ w.heap.size) :
    OwnRows (w.alloc (.cells #[.slice A n c] 24 (0, 0))) B (.slice (some ⟨w.heap.size, 0, none⟩) 1 1) [y] := by
  refine ⟨[⟨A, n, c⟩], ?_, rfl, fun i hi hi' => ?_⟩
  · unfold Kind.Own
    have e : kSl.cells [⟨A, n, c⟩] = [.slice A n c] := by rw [kSl_cells]; rfl
    rw [e]
    exact ⟨rfl, Or.inr ⟨w.heap.size, 1, _, rfl, hB, heap_alloc_new w _, Nat.le_refl _, by unfold maxLen; omega, rfl, rfl⟩⟩
  · have hi0 : i = 0 := by simp at hi; omega
    subst hi0
    refine ⟨hn.symm, hy.below (below_alloc w _), fun h0 z e => ?_⟩
    have e' : A = some z := e
    obtain ⟨bb, oo, e1, hc⟩ := hy.at h0
    rw [e'] at e1
    cases e1
    have := World.block_lt_of_cell? w _ hc
    intro h
    injection h with h
    simp only at h this
    omega

/-- What appending a second record does, with power for so many steps. -/
theorem counts_plain {g : Geo} {n ma mb ct : Nat} (a b T : List UInt8) (s : PS) (hn : halfN g = n) (hma : a.length = ma) (hmb : b.length = mb) (ha : ma ≤ 60) (hb : mb ≤ 60) (h256 : 256 ≤ n) (hoff : s.off = false) (hleft : s.left = (ct : Int)) :
    ∃ r H s', appE g s (recL a ++ (ffs (n - (ma + 7)) ++ T)) 0 ((ma : Int) + 7) b = (r, H ++ T, s') ∧ H.length = n ∧
      ((mb + 7 ≤ ct ∧ r = 0 ∧ recsF H = [a, b]) ∨ (ct = mb + 6 ∧ s.mask = 0 ∧ r = 6 ∧ recsF H = [a, b]) ∨ (ct = mb + 6 ∧ s.mask ≠ 0 ∧ r = 6 ∧ recsF H = [a]) ∨ (ct < mb + 6 ∧ r = 6 ∧ recsF H = [a])) := by
  have hx : isHalf 0 := Or.inl rfl
  have hU : ([] : List UInt8).length = (0 : Int).toNat * halfN g := by rw [show (0 : Int).toNat = 0 from rfl, Nat.zero_mul]; rfl
  have hP : (recL a).length = ma + 7 := by rw [recL_length, hma]
  have hPI : ((ma : Int) + 7) = ((recL a).length : Int) := by rw [hP]; push_cast; rfl
  have hH : (recL a).length + (n - (ma + 7)) = halfN g := by rw [hP, hn]; omega
  have hal : a.length ≤ 65000 := by omega
  have hbl : b.length ≤ 65000 := by omega
  rw [hPI]
  by_cases h1 : mb + 7 ≤ ct
  · have e := app_run (g := g) (s := s) (x := 0) (U := []) (P := recL a) (T := T) (bs := b) (R := n - (ma + 7)) (m := mb) hx hU hH hmb (by omega) hoff (by omega) (Or.inr (by omega))
    rw [List.nil_append, List.nil_append] at e
    refine ⟨0, recL a ++ (recL b ++ ffs (n - (ma + 7) - (mb + 7))), s.run (mb + 7), by rw [e]; simp, ?_, Or.inl ⟨h1, rfl, recs_ab a b _ hal hbl (nextF_ff _)⟩⟩
    rw [List.length_append, List.length_append, hP, recL_length, ffs_length]
    omega
  · by_cases h2 : ct = mb + 6
    · have e := app_flag (g := g) (s := s) (x := 0) (U := []) (P := recL a) (T := T) (bs := b) (R := n - (ma + 7)) (m := mb) hx hU hH hmb (by omega) hoff (by rw [hleft, h2])
      rw [List.nil_append, List.nil_append] at e
      have hlen : (recL a ++ (bodyL b ++ ([s.mask] ++ ffs (n - (ma + 7) - (mb + 7))))).length = n := by
        rw [List.length_append, List.length_append, List.length_append, hP, bodyL_length, ffs_length]
        simp
        omega
      by_cases h3 : s.mask = 0
      · refine ⟨6, recL a ++ (bodyL b ++ ([s.mask] ++ ffs (n - (ma + 7) - (mb + 7)))), (s.run (mb + 6)).stop, by rw [e]; simp, hlen, Or.inr (Or.inl ⟨h2, h3, rfl, ?_⟩)⟩
        rw [h3]
        have e2 : bodyL b ++ ([0] ++ ffs (n - (ma + 7) - (mb + 7))) = recL b ++ ffs (n - (ma + 7) - (mb + 7)) := by unfold recL; simp
        rw [e2]
        exact recs_ab a b _ hal hbl (nextF_ff _)
      · exact ⟨6, recL a ++ (bodyL b ++ ([s.mask] ++ ffs (n - (ma + 7) - (mb + 7)))), (s.run (mb + 6)).stop, by rw [e]; simp, hlen, Or.inr (Or.inr (Or.inl ⟨h2, h3, rfl, recs_a a _ hal (nextF_flag b _ _ hbl h3)⟩))⟩
    · obtain ⟨v, -, e⟩ := app_cut (g := g) (s := s) (x := 0) (U := []) (P := recL a) (T := T) (bs := b) (R := n - (ma + 7)) (m := mb) hx hU hH hmb (by omega) hoff hleft (by omega)
      rw [List.nil_append, List.nil_append] at e
      refine ⟨6, recL a ++ ((bodyL b).take ct ++ ([v] ++ ffs (n - (ma + 7) - (ct + 1)))), (s.run ct).stop, by rw [e]; simp, ?_, Or.inr (Or.inr (Or.inr ⟨by omega, rfl, recs_a a _ hal (nextF_torn2 b ct _ v (by omega) (by omega) (by omega))⟩))⟩
      rw [List.length_append, List.length_append, List.length_append, hP, List.length_take, bodyL_length, ffs_length]
      simp
      omega

set_option maxHeartbeats 16000000 in
theorem halfCounts_walk {w : World} (g0 g1 g2 g3 g4 : Int)
    (A : Option Addr) (c : Nat) (a : List UInt8) (hcap : a.length ≤ c ∧ c ≤ maxLen) (ha : Byts w A a) (hl : a.length ≤ 140737488351232)
    (A' : Option Addr) (c' : Nat) (b : List UInt8) (hcap' : b.length ≤ c' ∧ c' ≤ maxLen) (hb : Byts w A' b) (hl' : b.length ≤ 140737488351232)
    (cut0 : Int) (wc : (Lit.int .i64 cut0).wf = true) (mk0 : Int) (wm : (Lit.int .u8 mk0).wf = true) :
    Calls Try.prog 11 #[.agg #[.int .i64 g0, .int .i64 g1, .int .i64 g2, .int .i64 g3, .int .i64 g4], .slice A a.length c, .slice A' b.length c', .int .i64 cut0, .int .u8 mk0] w fun e w' => e = .returned (.bool true) ∧ Below w.heap.size w w' := by
  obtain ⟨w0, rfl⟩ : ∃ w0 : World, w0 = w := ⟨_, rfl⟩
  have hs0 : w0.heap.size ≤ w0.heap.size := Nat.le_refl _
  obtain ⟨mask, rfl⟩ := byte_of (wf_u8 wm)
  have wc := wf_i64 wc
  clear wm
  have hbx := Blk.new w0 [.int .i64 g0, .int .i64 g1, .int .i64 g2, .int .i64 g3, .int .i64 g4] 23
  have hbel := below_alloc w0 (.cells [.int .i64 g0, .int .i64 g1, .int .i64 g2, .int .i64 g3, .int .i64 g4].toArray 23 (0, 0))
  have hlt0 := hbx.lt
  obtain ⟨sa, sz, gc, gd, ge, hG, hok, hsa1, hsa2, hsa3, hsz1, hsz2, -⟩ := playG_is ⟨g0, g1, g2, g3, g4⟩
  have HG := Lib.hid (fun W => play_geometry_as g0 g1 g2 g3 g4 W hG)
  clear hG
  have b0 := hbx.cell 0 _ rfl
  have b1 := hbx.cell 1 _ rfl
  have b2 := hbx.cell 2 _ rfl
  have b3 := hbx.cell 3 _ rfl
  have b4 := hbx.cell 4 _ rfl
  obtain ⟨ma, hma⟩ : ∃ m, a.length = m := ⟨_, rfl⟩
  obtain ⟨mb, hmb⟩ : ∃ m, b.length = m := ⟨_, rfl⟩
  rw [hma] at hcap hl ⊢
  rw [hmb] at hcap' hl' ⊢
  have HMA := Lib.hid hma
  have HMB := Lib.hid hmb
  clear hma hmb
  by_cases h60 : 60 < ma ∨ 60 < mb
  · rcases Nat.lt_or_ge 60 ma with h1 | h1
    · go_enter Try.func11, Try.ntmps11
      go_wp2_with (go_at_call 51; refine (awake08 _).mono ?_; rintro e w2 ⟨rfl, hb2⟩)
      go_ret
      exact ⟨rfl, hbel.trans (hb2.mono hbel.size)⟩
    · have h2 : 60 < mb := by omega
      go_enter Try.func11, Try.ntmps11
      go_wp2_with (go_at_call 51; refine (awake08 _).mono ?_; rintro e w2 ⟨rfl, hb2⟩)
      go_ret
      exact ⟨rfl, hbel.trans (hb2.mono hbel.size)⟩
  have h60a : ma ≤ 60 := by omega
  have h60b : mb ≤ 60 := by omega
  clear h60
  obtain ⟨hC1, hC2⟩ := pmod_is cut0 (mb + 12) (by omega) (by omega)
  generalize pmod cut0 (mb + 12) = ct at *
  have HC1 : Hid (wrap64 ((IntKind.u64.wrap cut0).tmod ((mb : Int) + 7 + 5)) = (ct : Int)) := by rw [show (mb : Int) + 7 + 5 = ((mb + 12 : Nat) : Int) by push_cast; omega]; exact hC1
  clear hC1
  go_enter Try.func11, Try.ntmps11
  go_upto_region 4 with (go_at_call 16; refine (HG.out _).mono ?_; rintro e w1 ⟨rfl, hb1⟩; have hz1 := hbx.below hb1; have e0 := hz1.cell 0 _ rfl; have e1 := hz1.cell 1 _ rfl; have e2 := hz1.cell 2 _ rfl; have e3 := hz1.cell 3 _ rfl; have e4 := hz1.cell 4 _ rfl; have f0 := hz1.frz 0; have f1 := hz1.frz 1; have f2 := hz1.frz 2; have f3 := hz1.frz 3; have f4 := hz1.frz 4; have hs1 := hb1.size)
  have hq := box_turned hz1 (u0 := .int .i64 (sa : Int)) (u1 := .int .i64 (sz : Int)) (u2 := .int .i64 (gc : Int)) (u3 := .int .i64 (gd : Int)) (u4 := .int .i64 (ge : Int))
  have hbq := box_below (hbel.trans (hb1.mono hbel.size)) hs0 (u0 := .int .i64 (sa : Int)) (u1 := .int .i64 (sz : Int)) (u2 := .int .i64 (gc : Int)) (u3 := .int .i64 (gd : Int)) (u4 := .int .i64 (ge : Int))
  clear hz1 e0 e1 e2 e3 e4 f0 f1 f2 f3 f4 b0 b1 b2 b3 b4 hbx hb1 hbel hs1 hlt0
  generalize (((((w1.setCell ⟨w0.heap.size, 0, none⟩ (.int .i64 (sa : Int))).setCell ⟨w0.heap.size, 1, none⟩ (.int .i64 (sz : Int))).setCell ⟨w0.heap.size, 2, none⟩ (.int .i64 (gc : Int))).setCell ⟨w0.heap.size, 3, none⟩ (.int .i64 (gd : Int))).setCell ⟨w0.heap.size, 4, none⟩ (.int .i64 (ge : Int))) = w3 at *
  have hs3 := hq.lt
  have hd3 : w3.drew.heap.size = w3.heap.size := rfl
  have HQ := Lib.hid (fun (W : World) (h : Blk W w0.heap.size 23 [.int .i64 (sa : Int), .int .i64 (sz : Int), .int .i64 (gc : Int), .int .i64 (gd : Int), .int .i64 (ge : Int)]) =>
    (And.intro (h.cell 0 _ rfl) (And.intro (h.cell 1 _ rfl) (And.intro (h.cell 2 _ rfl) (And.intro (h.cell 3 _ rfl) (h.cell 4 _ rfl)))) : W.cell? ⟨w0.heap.size, 0, none⟩ = some (.int .i64 (sa : Int)) ∧ W.cell? ⟨w0.heap.size, 1, none⟩ = some (.int .i64 (sz : Int)) ∧ W.cell? ⟨w0.heap.size, 2, none⟩ = some (.int .i64 (gc : Int)) ∧ W.cell? ⟨w0.heap.size, 3, none⟩ = some (.int .i64 (gd : Int)) ∧ W.cell? ⟨w0.heap.size, 4, none⟩ = some (.int .i64 (ge : Int))))
  go_upto_region 5 with (go_at_call 18; refine (pow_new _).mono ?_; rintro e w4 ⟨v, rfl, pb, rfl, hpg, hpl, hp4, hb4⟩)
  have hq4 := hq.below hb4
  obtain ⟨b0, b1, b2, b3, b4⟩ := HQ.out _ hq4
  go_upto_region 6 with (go_at_call 17; refine (rig_new (B := w0.heap.size + 1) (g := ⟨sa, sz, gc, gd, ge⟩) hp4 (by omega) (by have := hb4.size; omega) hok).mono ?_; rintro e w5 ⟨cb, bb, mb', rfl, hR, hb5⟩)
  have hb50 := (hbq.trans (hb4.mono (by omega))).trans (hb5.mono (by have := hb4.size; omega))
  have z5 := hb50.size
  clear hb4 hb5 hbq hq hq4 hp4 HG hpg hpl hs3 hd3 b0 b1 b2 b3 b4 HQ
  have hf := half_facts hok
  have hn1 := hf.2.2.2.2.2.2.1
  have hn2 := hf.2.2.2.2.2.2.2.1
  have hn3 := hf.2.2.2.2.2.2.2.2
  clear hf
  rw [hn3] at hR
  clear hn3 hok
  generalize (Geo.mk sa sz gc gd ge) = G at *
  obtain ⟨n, hn⟩ : ∃ n, halfN G = n := ⟨_, rfl⟩
  rw [hn] at hn1 hn2 hR
  have E1 : appE G PS.new (ffs (2 * n)) 0 0 a = (0, recL a ++ (ffs (n - (ma + 7)) ++ ffs n), PS.new.run (ma + 7)) := by
    have e0 : ffs (2 * n) = ffs n ++ ffs n := by rw [ffs_append, Nat.two_mul]
    have e1 := app_run (g := G) (s := PS.new) (x := 0) (U := []) (P := []) (T := ffs n) (bs := a) (R := n) (m := ma) (Or.inl rfl) (by rw [show (0 : Int).toNat = 0 from rfl, Nat.zero_mul]; rfl) (by rw [hn]; simp) HMA.out (by omega) rfl (by decide) (Or.inl (by decide))
    rw [e0]
    exact e1
  obtain ⟨r, H, s', hE2, hHl, hcase⟩ := counts_plain (ct := ct) a b (ffs n) ((PS.new.run (ma + 7)).cut (ct : Int) mask) hn HMA.out HMB.out h60a h60b hn2 rfl (by show max (ct : Int) (-1) = _; omega)
  have hm9 : ((PS.new.run (ma + 7)).cut (ct : Int) mask).mask = mask := rfl
  rw [hm9] at hcase
  have hd1 : (PS.new.run (ma + 7)).done = ma + 7 := by show 0 + (ma + 7) = _; omega
  have hd2 : ((PS.new.run (ma + 7)).cut (ct : Int) mask).done = ma + 7 := hd1
  have HH := Lib.hid (show halfL G (H ++ ffs n) 0 = H from halfL_is (Or.inl rfl) [] H (ffs n) (by rw [show (0 : Int).toNat = 0 from rfl, Nat.zero_mul]; rfl) (by rw [hn]; exact hHl))
  have HE1 := Lib.hid E1
  have HE2 := Lib.hid hE2
  have HHL := Lib.hid hHl
  clear E1 hE2 hm9 hHl hn
  go_upto_region 8 with (first
    | (go_at_call 51; refine (awake08 _).mono ?_; rintro e w6 ⟨rfl, hb6⟩; have hR6 := hR.below hb6; have hb60 := hb50.trans (hb6.mono z5); have ha6 := ha.below hb60)
    | (go_at_call 52; refine (half_append hR6 0 0 (by decide) A ma c a ha6 HMA.out (by omega) (by show 0 + _ ≤ _; omega) HE1.out).mono ?_; rintro e w7 ⟨rfl, hR7, ho7⟩))
  have hb70 := hR6.fresh (Nat.le_succ _) hb60 hs0 (ho7.mono (S' := [bb, mb', pb]) (by simp))
  clear hR hb6 hb50 z5 ha6 ho7 hR6 hb60 HE1
  have hu9 : IntKind.u64.wrap ((mb : Int) + 12) = (mb : Int) + 12 := IntWalk.u64_in _ (by omega)
  have hz9 : ¬ ((mb : Int) + 12 = 0) := by omega
  have hz9b : (((mb : Int) + 12) == 0) = false := by simp; omega
  go_upto_region 10 with (go_at_call 49; refine (frame_size _ _ (by omega) (by omega)).mono ?_; rintro e w' ⟨rfl, rfl⟩)
  rw [HC1.out]
  clear hu9 hz9 hz9b HC1
  have hcI : (ct : Int) ≤ 9223372036854775807 := by omega
  have hb7b := hb.below hb70
  have ha7b := ha.below hb70
  go_upto_region 11 with (go_at_call 25; refine (rig_cut hR7 (ct : Int) mask hcI).mono ?_; rintro e w8 ⟨rfl, hR8, ho8⟩)
  have hb80 := hR7.fresh (Nat.le_succ _) hb70 hs0 (ho8.mono (S' := [bb, mb', pb]) (by simp))
  have ha8 := ha.below hb80
  have hb8 := hb.below hb80
  clear hR7 ho8 hb70 hb7b ha7b
  go_upto_region 12 with (first
    | (go_at_call 49; refine (frame_size _ _ (by omega) (by omega)).mono ?_; rintro e w' ⟨rfl, rfl⟩)
    | (go_at_call 52; refine (half_append hR8 0 ((ma : Int) + 7) (by omega) A' mb c' b hb8 HMB.out (by omega) (by rw [hd2]; omega) HE2.out).mono ?_; rintro e w9 ⟨rfl, hR9, ho9⟩))
  have hb90 := hR8.fresh (Nat.le_succ _) hb80 hs0 (ho9.mono (S' := [bb, mb', pb]) (by simp))
  clear hR8 ho9 hb80 ha8 hb8 HE2
  go_upto_region 13 with (go_at_call 26; refine (rig_on hR9).mono ?_; rintro e w10 ⟨rfl, hR10, ho10⟩)
  have hb100 := hR9.fresh (Nat.le_succ _) hb90 hs0 (ho10.mono (S' := [bb, mb', pb]) (by simp))
  clear hR9 ho10 hb90
  go_upto_region 14 with (go_at_call 53; refine (half_read hR10 0 HH.out (show halfA 0 = 0 by decide) HHL.out).mono ?_; rintro e w11 ⟨A16, c16, rfl, hc16, hy16, -, hb11⟩)
  have hb110 := hb100.trans (hb11.mono hb100.size)
  clear hR10 hb11 hb100
  go_upto_region 15 with (go_at_call 46; refine (frame_scan A16 n c16 H _ hy16 HHL.out hc16.1 hc16.2 (by omega)).mono ?_; rintro e w12 ⟨A18, c18, rfl, hc18, hr18, hA18, hb12⟩)
  have hb120 := hb110.trans (hb12.mono hb110.size)
  have hs12 := hb120.size
  clear hb12 hb110 hy16 hA18
  have ha12 := ha.below hb120
  have hb12' := hb.below hb120
  have hown := own_row1 w12 A ma c w12.heap.size a ha12 HMA.out (Nat.le_refl _)
  have hbA := hb120.alloc hs12 (.cells #[.slice A ma c] 24)
  have hrA := hr18.below (below_alloc w12 (.cells #[.slice A ma c] 24))
  have hbbA := hb12'.below (below_alloc w12 (.cells #[.slice A ma c] 24))
  have hzA : w12.heap.size < (w12.alloc (.cells #[.slice A ma c] 24)).heap.size := by simp
  generalize endF (recsF H) = eH at *
  generalize cleanF H = cH at *
  obtain ⟨rs, hrs⟩ : ∃ rs, recsF H = rs := ⟨_, rfl⟩
  rw [hrs] at hcase hc18 hr18 hrA ⊢
  have hT13 := below_alloc w12 (.cells #[.slice A ma c] 24)
  clear hrs HH HHL
  go_upto_region 16 with fail
  have hw2 : Hid (∀ want : List (List UInt8), want = [a] ∨ want = [a, b] → want.length ≤ 2) := fun want h => by rcases h with rfl | rfl <;> simp
  generalize w12.alloc (.cells #[.slice A ma c] 24) = w13 at *
  obtain ⟨wh, hwh⟩ : ∃ wh : Bool, Hid ((wh = true → rs = [a, b]) ∧ (wh = false → rs = [a])) ∧ Hid (wh = true ↔ (mb + 7 ≤ ct ∨ (ct = mb + 6 ∧ mask = 0))) := by
    rcases hcase with ⟨h1, -, h2⟩ | ⟨h1, h3, -, h2⟩ | ⟨h1, h3, -, h2⟩ | ⟨h1, -, h2⟩
    · exact ⟨true, ⟨fun _ => h2, (fun h => by cases h)⟩, ⟨fun _ => Or.inl h1, fun _ => rfl⟩⟩
    · exact ⟨true, ⟨fun _ => h2, (fun h => by cases h)⟩, ⟨fun _ => Or.inr ⟨h1, h3⟩, fun _ => rfl⟩⟩
    · exact ⟨false, ⟨(fun h => by cases h), fun _ => h2⟩, ⟨(fun h => by cases h), fun h => by rcases h with h | ⟨h, h'⟩; omega; exact absurd h' h3⟩⟩
    · exact ⟨false, ⟨(fun h => by cases h), fun _ => h2⟩, ⟨(fun h => by cases h), fun h => by rcases h with h | ⟨h, h'⟩ <;> omega⟩⟩
  go_cut [3, 4, 103] (fun v3 v4 v103 w' => v3 = .int .i64 (ct : Int) ∧ v4 = .int .u8 (mask.toNat : Int) ∧ v103 = .bool wh ∧ w' = w13)
  case first =>
    have hwh2 := hwh.2.out
    by_cases h1 : mb + 7 ≤ ct
    · have h1I : (mb : Int) + 7 ≤ (ct : Int) := by omega
      obtain rfl : wh = true := hwh2.2 (Or.inl h1)
      clear hwh2
      go_wp2_with fail
      go_meet
      exact ⟨rfl, rfl, rfl, rfl⟩
    · have h1I : ¬ ((mb : Int) + 7 ≤ (ct : Int)) := by omega
      by_cases h2 : ct = mb + 6
      · have h2I : ((ct : Int) == (mb : Int) + 7 - 1) = true := by simp; omega
        have h2J : ((ct : Int) == (mb : Int) + 6) = true := by simp; omega
        by_cases h3 : mask = 0
        · have h3I : ((mask.toNat : Int) == 0) = true := by rw [h3]; rfl
          obtain rfl : wh = true := hwh2.2 (Or.inr ⟨h2, h3⟩)
          clear hwh2
          go_wp2_with fail
          go_meet
          exact ⟨by congr 1 <;> omega, by first | rfl | (rw [h3]; rfl), rfl, rfl⟩
        · have h3I : ((mask.toNat : Int) == 0) = false := by
            have : mask.toNat ≠ 0 := fun h => h3 (UInt8.toNat_inj.1 h)
            simp; omega
          obtain rfl : wh = false := by
            cases wh with
            | false => rfl
            | true => exact absurd (hwh2.1 rfl) (by rintro (h | ⟨_, h⟩); exact h1 h; exact h3 h)
          clear hwh2
          go_wp2_with fail
          go_meet
          exact ⟨by congr 1 <;> omega, by first | rfl | (rw [h3]; rfl), rfl, rfl⟩
      · have h2I : ((ct : Int) == (mb : Int) + 7 - 1) = false := by simp; omega
        have h2J : ((ct : Int) == (mb : Int) + 6) = false := by simp; omega
        obtain rfl : wh = false := by
          cases wh with
          | false => rfl
          | true => exact absurd (hwh2.1 rfl) (by rintro (h | ⟨h, _⟩); exact h1 h; exact h2 h)
        clear hwh2
        go_wp2_with fail
        go_meet
        exact ⟨rfl, rfl, rfl, rfl⟩
  case rest =>
  obtain ⟨rfl, rfl, rfl, hw⟩ := hcut
  subst hw
  obtain ⟨w13, rfl⟩ : ∃ w13, w13 = wc := ⟨_, rfl⟩
  go_upto_if 103 with fail
  go_cut [21] (fun v21 w' => ∃ A21 c21, v21 = .slice A21 rs.length c21 ∧ Rows w' A21 rs ∧ Rows w' A18 rs ∧ rs.length ≤ 2 ∧ Below w0.heap.size w0 w')
  case first =>
    have hw1 := hwh.1.out
    cases wh with
    | true =>
      have hq2 : Hid ([a] ++ [b] = rs) := (hw1.1 rfl).symm
      clear hw1
      have hoA := hown.below (below_alloc w13 (.cells #[.slice A' mb c'] 24))
      have hrB := hrA.below (below_alloc w13 (.cells #[.slice A' mb c'] 24))
      have hbB := hbbA.below (below_alloc w13 (.cells #[.slice A' mb c'] 24))
      have hcB := (Blk.new w13 [.slice A' mb c'] 24).cell 0 _ rfl
      have hbC := hT13.alloc hT13.size (.cells #[.slice A' mb c'] 24)
      have hneB : 0 < b.length → ∀ z, A' = some z → (Value.slice (some ⟨w12.heap.size, 0, none⟩) 1 1).ownBlock ≠ some z.block := fun h0 z e h => by
        have h9 := hb.lt h0 z e
        have h8 : w12.heap.size = z.block := by simpa [Value.ownBlock] using h
        omega
      have hzC : w12.heap.size ≤ (w13.alloc (.cells #[.slice A' mb c'] 24)).heap.size := by rw [World.size_alloc]; omega
      go_wp2_with (at_builtin; refine wpList_wanted (by rfl) fun K hK => wp_append_row _ _ rfl rfl rfl hoA hcB hbB HMB.out hcap'.1 hneB (by simp) hzC ?_; intro v14 w14 hown14 hg14 hv14; refine hK _ _ ?_; clear hK K)
      rw [hq2.out] at hown14
      obtain ⟨A21, c21, rfl, hc21, hr21, -⟩ := hown14.form
      have hb14 := hbC.grown hg14 hbC.size (fun k e => (hoA.lt e).1)
      go_meet
      exact ⟨_, _, rfl, hr21, hr18.below hb14, by rw [← hq2.out]; simp, hb120.trans (hb14.mono hs12)⟩
    | false =>
      have hq2 : [a] = rs := (hw1.2 rfl).symm
      rw [hq2] at hown
      obtain ⟨A21, c21, e21, hc21, hr21, -⟩ := hown.form
      have HQ2 := Lib.hid hq2
      have HE21 := Lib.hid e21
      clear hq2 e21 hw1
      go_wp2_with fail
      go_meet
      exact ⟨A21, c21, HE21.out, hr21, hrA, by rw [← HQ2.out]; simp, hbA⟩
  case rest =>
    obtain ⟨A21, c21, rfl, hr21, hr18', hl2, hb15⟩ := hcut
    clear hr18 hrA hown hbbA hbA
    have HD := Lib.hid (decide_eq_true (rfl : rs = rs))
    have hres : (r = 0 ∧ mb + 7 ≤ ct) ∨ (r = 6 ∧ ¬ (mb + 7 ≤ ct)) := by
      rcases hcase with ⟨h1, h2, -⟩ | ⟨h1, -, h2, -⟩ | ⟨h1, -, h2, -⟩ | ⟨h1, h2, -⟩
      · exact Or.inl ⟨h2, h1⟩
      · exact Or.inr ⟨h2, by omega⟩
      · exact Or.inr ⟨h2, by omega⟩
      · exact Or.inr ⟨h2, by omega⟩
    clear hcase
    rcases hres with ⟨rfl, h1⟩ | ⟨rfl, h1⟩
    · have h1I : (mb : Int) + 7 ≤ (ct : Int) := by omega
      go_wp2_with (go_at_call 48; refine (same_rows A18 rs.length c18 rs A21 rs.length c21 rs _ hr18' rfl hr21 rfl (by omega) (by omega)).mono ?_; rintro e w16 ⟨rfl, m16, rfl⟩; rw [HD.out])
      go_ret
      exact ⟨rfl, below_drewN hb15 _⟩
    · have h1I : ¬ ((mb : Int) + 7 ≤ (ct : Int)) := by omega
      go_wp2_with (go_at_call 48; refine (same_rows A18 rs.length c18 rs A21 rs.length c21 rs _ hr18' rfl hr21 rfl (by omega) (by omega)).mono ?_; rintro e w16 ⟨rfl, m16, rfl⟩; rw [HD.out])
      go_ret
      exact ⟨rfl, below_drewN hb15 _⟩
end Go.Proofs.Ytcdgpioljilgeaa
