/- The walk of the law HalfWipes. -/
import Derived.Test.YtcdgpioljilgeaaLawHalf1
import Derived.RegionTactic
set_option linter.unusedVariables false
set_option maxRecDepth 100000
set_option linter.unusedSimpArgs false
namespace Go.Proofs.Ytcdgpioljilgeaa
open Go.RowKit

/-- A half that is wiped with power for so many steps, and once more with power. -/
theorem wipes_plain {g : Geo} (hok : g.ok) {k ct : Nat} (hk : halfS g = k) {xI oI bI pI : Int} (hx : xI = 0 ∧ oI = 1 ∧ bI = 0 ∧ pI = (k : Int) ∨ xI = 1 ∧ oI = 0 ∧ bI = (k : Int) ∧ pI = 0) (s : PS) (l : List UInt8) (hL : l.length = 2 * halfN g) (hoff : s.off = false) (hc : s.left = (ct : Int)) :
    ∃ r l3 s4 cnt3, wipeE g s l (fun _ => 0) xI = (r, l3, s4, cnt3) ∧ (r = if k ≤ ct then 0 else 6) ∧ (∀ i : Nat, i < k → cnt3 (bI + (i : Int)) = if k - ct ≤ i then 1 else 0) ∧ (∀ i : Nat, i < k → cnt3 (pI + (i : Int)) = 0) ∧ halfL g l3 oI = halfL g l oI ∧ l3.length = l.length ∧ s4.done ≤ s.done + 8 ∧
      ∀ s5 : PS, s5.off = false → s5.left = -1 → ∃ l5 s6 cnt5, wipeE g s5 l3 cnt3 xI = (0, l5, s6, cnt5) ∧ halfL g l5 xI = ffs (halfN g) := by
  have hf := half_facts hok
  rw [hk] at hf
  have hA : g.a = ((2 * k : Nat) : Int) := by rw [hf.1]; push_cast; rfl
  have hN : halfN g = k * g.b.toNat := by unfold halfN; rw [hk]
  have hLA : l.length = (2 * k) * g.b.toNat := by rw [hL, hN, Nat.mul_assoc]
  have hxh : isHalf xI := by unfold isHalf; rcases hx with ⟨h, _⟩ | ⟨h, _⟩; exact Or.inl h; exact Or.inr h
  obtain ⟨b, p, hb, hp, hbk, hxn, hon⟩ : ∃ b p : Nat, bI = (b : Int) ∧ pI = (p : Int) ∧ (b = 0 ∧ p = k ∨ b = k ∧ p = 0) ∧ xI.toNat * halfN g = b * g.b.toNat ∧ oI.toNat * halfN g = p * g.b.toNat := by
    rcases hx with ⟨rfl, rfl, rfl, rfl⟩ | ⟨rfl, rfl, rfl, rfl⟩
    · refine ⟨0, k, rfl, rfl, Or.inl ⟨rfl, rfl⟩, ?_, ?_⟩
      · rw [show (0 : Int).toNat = 0 from rfl, Nat.zero_mul, Nat.zero_mul]
      · rw [show (1 : Int).toNat = 1 from rfl, Nat.one_mul, hN]
    · refine ⟨k, 0, rfl, rfl, Or.inr ⟨rfl, rfl⟩, ?_, ?_⟩
      · rw [show (1 : Int).toNat = 1 from rfl, Nat.one_mul, hN]
      · rw [show (0 : Int).toNat = 0 from rfl, Nat.zero_mul, Nat.zero_mul]
  have hxk : xI * (k : Int) = (b : Int) := by
    rw [← hb]
    rcases hx with ⟨rfl, rfl, rfl, rfl⟩ | ⟨rfl, rfl, rfl, rfl⟩ <;> omega
  subst hb hp
  have hbk2 : b + k ≤ 2 * k := by omega
  have hE : ∀ (s : PS) (l : List UInt8) (cnt : Int → Int), wipeE g s l cnt xI = wipeL g (b : Int) k s l cnt := fun s l cnt => by
    unfold wipeE
    rw [if_pos hxh, hk, hxk]
  obtain ⟨r, l3, s4, cnt3, h3⟩ : ∃ r l3 s4 cnt3, wipeL g (b : Int) k s l (fun _ => 0) = (r, l3, s4, cnt3) := ⟨_, _, _, _, rfl⟩
  obtain ⟨h31, h32⟩ := wipe_same hA b k hbk2 s l _ hLA h3
  obtain ⟨h33, h34, h35⟩ := wipe_cnt hA b k ct hbk2 s l _ hoff hc h3
  have hmul : (b + k) * g.b.toNat = b * g.b.toNat + k * g.b.toNat := Nat.add_mul _ _ _
  refine ⟨r, l3, s4, cnt3, by rw [hE]; exact h3, h33, fun i hi => ?_, fun i hi => ?_, ?_, h31, by omega, fun s5 h5 h6 => ?_⟩
  · have := h34 (b + i)
    rw [show (b : Int) + (i : Int) = ((b + i : Nat) : Int) by push_cast; rfl, this]
    by_cases e : k - ct ≤ i
    · rw [if_pos e, if_pos (by omega)]; rfl
    · rw [if_neg e, if_neg (by omega)]; rfl
  · have := h34 (p + i)
    rw [show (p : Int) + (i : Int) = ((p + i : Nat) : Int) by push_cast; rfl, this, if_neg (by omega)]
    rfl
  · refine halfL_ext (fun i h1 h2 => h32 i ?_)
    rw [hon] at h1 h2
    rw [hN] at h2
    rcases hbk with ⟨e1, e2⟩ | ⟨e1, e2⟩
    · right
      rw [e1, Nat.zero_add]
      rw [e2] at h1
      exact h1
    · left
      rw [e1]
      rw [e2] at h2
      omega
  · obtain ⟨r5, l5, s6, cnt5, h7⟩ : ∃ r9 l9 s9 c9, wipeL g (b : Int) k s5 l3 cnt3 = (r9, l9, s9, c9) := ⟨_, _, _, _, rfl⟩
    obtain ⟨h8, h9⟩ := wipe_all hA b k hbk2 s5 l3 cnt3 (by rw [h31]; exact hLA) h5 h6 h7
    subst h8
    refine ⟨l5, s6, cnt5, by rw [hE]; exact h7, halfL_ff hxh (fun i h1 h2 => h9 i ?_ ?_)⟩
    · rw [hxn] at h1; exact h1
    · rw [hxn, hN] at h2; omega

set_option maxHeartbeats 16000000 in
theorem halfWipes_walk {w : World} (g0 g1 g2 g3 g4 : Int) (x0 : Int) (wx : (Lit.int .i64 x0).wf = true)
    (A : Option Addr) (c : Nat) (a : List UInt8) (hcap : a.length ≤ c ∧ c ≤ maxLen) (ha : Byts w A a) (hl : a.length ≤ 140737488351232)
    (A' : Option Addr) (c' : Nat) (b : List UInt8) (hcap' : b.length ≤ c' ∧ c' ≤ maxLen) (hb : Byts w A' b) (hl' : b.length ≤ 140737488351232)
    (cut0 : Int) (wc : (Lit.int .i64 cut0).wf = true) (mk0 : Int) (wm : (Lit.int .u8 mk0).wf = true) :
    Calls Try.prog 14 #[.agg #[.int .i64 g0, .int .i64 g1, .int .i64 g2, .int .i64 g3, .int .i64 g4], .int .i64 x0, .slice A a.length c, .slice A' b.length c', .int .i64 cut0, .int .u8 mk0] w fun e w' => e = .returned (.bool true) ∧ Below w.heap.size w w' := by
  obtain ⟨w0, rfl⟩ : ∃ w0 : World, w0 = w := ⟨_, rfl⟩
  have hs0 : w0.heap.size ≤ w0.heap.size := Nat.le_refl _
  obtain ⟨mask, rfl⟩ := byte_of (wf_u8 wm)
  have wc := wf_i64 wc
  have wx := wf_i64 wx
  clear wm
  have hbx := Blk.new w0 [.int .i64 g0, .int .i64 g1, .int .i64 g2, .int .i64 g3, .int .i64 g4] 23
  have hbel := below_alloc w0 (.cells [.int .i64 g0, .int .i64 g1, .int .i64 g2, .int .i64 g3, .int .i64 g4].toArray 23 (0, 0))
  have hlt0 := hbx.lt
  obtain ⟨sa, sz, gc, gd, ge, hG, hok, hsa1, hsa2, hsa3, hsz1, hsz2, -⟩ := playG_is ⟨g0, g1, g2, g3, g4⟩
  have HG := Lib.hid (fun W => play_geometry_as g0 g1 g2 g3 g4 W hG)
  clear hG
  have b0 := hbx.cell 0 _ rfl
  have b1 := hbx.cell 1 _ rfl
  have b2 := hbx.cell 2 _ rfl
  have b3 := hbx.cell 3 _ rfl
  have b4 := hbx.cell 4 _ rfl
  obtain ⟨ma, hma⟩ : ∃ m, a.length = m := ⟨_, rfl⟩
  obtain ⟨mb, hmb⟩ : ∃ m, b.length = m := ⟨_, rfl⟩
  rw [hma] at hcap hl ⊢
  rw [hmb] at hcap' hl' ⊢
  have HMA := Lib.hid hma
  have HMB := Lib.hid hmb
  clear hma hmb
  by_cases h60 : 100 < ma ∨ 100 < mb
  · rcases Nat.lt_or_ge 100 ma with h1 | h1
    · go_enter Try.func14, Try.ntmps14
      go_wp2_with (go_at_call 51; refine (awake08 _).mono ?_; rintro e w2 ⟨rfl, hb2⟩)
      go_ret
      exact ⟨rfl, hbel.trans (hb2.mono hbel.size)⟩
    · have h2 : 100 < mb := by omega
      go_enter Try.func14, Try.ntmps14
      go_wp2_with (go_at_call 51; refine (awake08 _).mono ?_; rintro e w2 ⟨rfl, hb2⟩)
      go_ret
      exact ⟨rfl, hbel.trans (hb2.mono hbel.size)⟩
  have h60a : ma ≤ 100 := by omega
  have h60b : mb ≤ 100 := by omega
  clear h60
  obtain ⟨hX1, hX2⟩ := pmod_is x0 2 (by omega) (by omega)
  generalize pmod x0 2 = xk at *
  have HX1 : Hid (wrap64 ((IntKind.u64.wrap x0).tmod 2) = (xk : Int)) := hX1
  clear hX1
  go_enter Try.func14, Try.ntmps14
  go_upto_region 4 with (go_at_call 16; refine (HG.out _).mono ?_; rintro e w1 ⟨rfl, hb1⟩; have hz1 := hbx.below hb1; have e0 := hz1.cell 0 _ rfl; have e1 := hz1.cell 1 _ rfl; have e2 := hz1.cell 2 _ rfl; have e3 := hz1.cell 3 _ rfl; have e4 := hz1.cell 4 _ rfl; have f0 := hz1.frz 0; have f1 := hz1.frz 1; have f2 := hz1.frz 2; have f3 := hz1.frz 3; have f4 := hz1.frz 4; have hs1 := hb1.size)
  have hq := box_turned hz1 (u0 := .int .i64 (sa : Int)) (u1 := .int .i64 (sz : Int)) (u2 := .int .i64 (gc : Int)) (u3 := .int .i64 (gd : Int)) (u4 := .int .i64 (ge : Int))
  have hbq := box_below (hbel.trans (hb1.mono hbel.size)) hs0 (u0 := .int .i64 (sa : Int)) (u1 := .int .i64 (sz : Int)) (u2 := .int .i64 (gc : Int)) (u3 := .int .i64 (gd : Int)) (u4 := .int .i64 (ge : Int))
  clear hz1 e0 e1 e2 e3 e4 f0 f1 f2 f3 f4 b0 b1 b2 b3 b4 hbx hb1 hbel hs1 hlt0
  generalize (((((w1.setCell ⟨w0.heap.size, 0, none⟩ (.int .i64 (sa : Int))).setCell ⟨w0.heap.size, 1, none⟩ (.int .i64 (sz : Int))).setCell ⟨w0.heap.size, 2, none⟩ (.int .i64 (gc : Int))).setCell ⟨w0.heap.size, 3, none⟩ (.int .i64 (gd : Int))).setCell ⟨w0.heap.size, 4, none⟩ (.int .i64 (ge : Int))) = w3 at *
  have hs3 := hq.lt
  have hd3 : w3.drew.heap.size = w3.heap.size := rfl
  have HQ := Lib.hid (fun (W : World) (h : Blk W w0.heap.size 23 [.int .i64 (sa : Int), .int .i64 (sz : Int), .int .i64 (gc : Int), .int .i64 (gd : Int), .int .i64 (ge : Int)]) =>
    (And.intro (h.cell 0 _ rfl) (And.intro (h.cell 1 _ rfl) (And.intro (h.cell 2 _ rfl) (And.intro (h.cell 3 _ rfl) (h.cell 4 _ rfl)))) : W.cell? ⟨w0.heap.size, 0, none⟩ = some (.int .i64 (sa : Int)) ∧ W.cell? ⟨w0.heap.size, 1, none⟩ = some (.int .i64 (sz : Int)) ∧ W.cell? ⟨w0.heap.size, 2, none⟩ = some (.int .i64 (gc : Int)) ∧ W.cell? ⟨w0.heap.size, 3, none⟩ = some (.int .i64 (gd : Int)) ∧ W.cell? ⟨w0.heap.size, 4, none⟩ = some (.int .i64 (ge : Int))))
  go_upto_region 6 with (go_at_call 18; refine (pow_new _).mono ?_; rintro e w4 ⟨v, rfl, pb, rfl, hpg, hpl, hp4, hb4⟩)
  have hq4 := hq.below hb4
  obtain ⟨b0, b1, b2, b3, b4⟩ := HQ.out _ hq4
  rw [HX1.out]
  clear HX1
  go_upto_region 7 with (go_at_call 17; refine (rig_new (B := w0.heap.size + 1) (g := ⟨sa, sz, gc, gd, ge⟩) hp4 (by omega) (by have := hb4.size; omega) hok).mono ?_; rintro e w5 ⟨cb, bb, mb', rfl, hR, hb5⟩)
  have hq5 := hq4.below hb5
  have hb50 := (hbq.trans (hb4.mono (by omega))).trans (hb5.mono (by have := hb4.size; omega))
  have z5 := hb50.size
  clear hb4 hb5 hbq hq hq4 hp4 HG hpg hpl hs3 hd3 b0 b1 b2 b3 b4 HQ
  have hf := half_facts hok
  have hn1 := hf.2.2.2.2.2.2.1
  have hn2 := hf.2.2.2.2.2.2.2.1
  have hn3 := hf.2.2.2.2.2.2.2.2
  obtain ⟨k, hk⟩ : ∃ k, halfS ⟨sa, sz, gc, gd, ge⟩ = k := ⟨_, rfl⟩
  have hsk : (sa : Int) = 2 * (k : Int) := by rw [← hk]; exact hf.1
  have hk1 : 1 ≤ k := by rw [← hk]; exact hf.2.1
  have hk2 : k ≤ 8 := by rw [← hk]; exact hf.2.2.1
  clear hf
  rw [hn3] at hR
  clear hn3
  have HB0 := Lib.hid (fun (W : World) (h : Blk W w0.heap.size 23 [.int .i64 (sa : Int), .int .i64 (sz : Int), .int .i64 (gc : Int), .int .i64 (gd : Int), .int .i64 (ge : Int)]) => (by rw [← hsk]; exact h.cell 0 _ rfl : W.cell? ⟨w0.heap.size, 0, none⟩ = some (.int .i64 (2 * (k : Int)))))
  have hq2 : (2 * (k : Int)).tdiv 2 = (k : Int) := by rw [Int.mul_comm]; exact Int.mul_tdiv_cancel _ (by decide)
  have HOK := Lib.hid hok
  clear hsk hok
  generalize (Geo.mk sa sz gc gd ge) = G at *
  obtain ⟨n, hn⟩ : ∃ n, halfN G = n := ⟨_, rfl⟩
  rw [hn] at hn1 hn2 hR
  have hP1 : (recL a).length = ma + 7 := by rw [recL_length, HMA.out]
  have E1 : appE G PS.new (ffs (2 * n)) 0 0 a = (0, recL a ++ (ffs (n - (ma + 7)) ++ ffs n), PS.new.run (ma + 7)) := by
    have e0 : ffs (2 * n) = ffs n ++ ffs n := by rw [ffs_append, Nat.two_mul]
    have e1 := app_run (g := G) (s := PS.new) (x := 0) (U := []) (P := []) (T := ffs n) (bs := a) (R := n) (m := ma) (Or.inl rfl) (by rw [show (0 : Int).toNat = 0 from rfl, Nat.zero_mul]; rfl) (by rw [hn]; simp) HMA.out (by omega) rfl (by decide) (Or.inl (by decide))
    rw [e0]
    exact e1
  have E2 : appE G (PS.new.run (ma + 7)) (recL a ++ (ffs (n - (ma + 7)) ++ ffs n)) 1 0 b = (0, recL a ++ ffs (n - (ma + 7)) ++ ([] ++ (recL b ++ (ffs (n - (mb + 7)) ++ []))), (PS.new.run (ma + 7)).run (mb + 7)) := by
    have e1 := app_run (g := G) (s := PS.new.run (ma + 7)) (x := 1) (U := recL a ++ ffs (n - (ma + 7))) (P := []) (T := []) (bs := b) (R := n) (m := mb) (Or.inr rfl) (by rw [show (1 : Int).toNat = 1 from rfl, Nat.one_mul, hn, List.length_append, hP1, ffs_length]; omega) (by rw [hn]; simp) HMB.out (by omega) rfl (by rw [run_left, if_pos (by decide)]; decide) (Or.inl (by rw [run_left, if_pos (by decide)]; decide))
    rw [List.append_nil, List.nil_append, List.append_assoc] at e1
    exact e1
  have hL2 : (recL a ++ ffs (n - (ma + 7)) ++ ([] ++ (recL b ++ (ffs (n - (mb + 7)) ++ [])))).length = 2 * n := by
    simp only [List.length_append, hP1, ffs_length, List.length_nil, recL_length, HMB.out]
    omega
  have hs2o : ((PS.new.run (ma + 7)).run (mb + 7)).off = false := rfl
  have hs1d : (PS.new.run (ma + 7)).done = ma + 7 := by show 0 + (ma + 7) = _; omega
  have hs2d : ((PS.new.run (ma + 7)).run (mb + 7)).done = ma + 7 + (mb + 7) := by show 0 + (ma + 7) + (mb + 7) = _; omega
  generalize recL a ++ ffs (n - (ma + 7)) ++ ([] ++ (recL b ++ (ffs (n - (mb + 7)) ++ []))) = l2 at *
  generalize (PS.new.run (ma + 7)).run (mb + 7) = s2 at *
  have HE1 := Lib.hid E1
  have HE2 := Lib.hid E2
  clear E1 E2 hP1
  have hdA : PS.new.done + (ma + 7) ≤ 1000000000000 := by show 0 + _ ≤ _; omega
  have hdB : (PS.new.run (ma + 7)).done + (mb + 7) ≤ 1000000000000 := by rw [hs1d]; omega
  have hmA : ma ≤ 65000 := by omega
  have hmB : mb ≤ 65000 := by omega
  have h0b : -9223372036854775808 ≤ (0 : Int) ∧ (0 : Int) ≤ 9223372036854775807 := by decide
  go_upto_region 9 with (first
    | (go_at_call 51; refine (awake08 _).mono ?_; rintro e w6 ⟨rfl, hb6⟩; have hR6 := hR.below hb6; have hq6 := hq5.below hb6; have hb60 := hb50.trans (hb6.mono z5); have ha6 := ha.below hb60)
    | (go_at_call 52; first
      | (with_reducible refine (half_append hR6 0 0 h0b A ma c a ha6 HMA.out hmA hdA HE1.out).mono ?_); rintro e w7 ⟨rfl, hR7, ho7⟩; have hb70 := hR6.fresh (Nat.le_succ _) hb60 hs0 (ho7.mono (S' := [bb, mb', pb]) (by simp)); have hb7 := hb.below hb70; have hq7 := hq6.only ho7 (fun hm => by have := hR6.own2 _ hm; omega)
      | (with_reducible refine (half_append hR7 1 0 h0b A' mb c' b hb7 HMB.out hmB hdB HE2.out).mono ?_); rintro e w8 ⟨rfl, hR8, ho8⟩))
  have hb80 := hR7.fresh (Nat.le_succ _) hb70 hs0 (ho8.mono (S' := [bb, mb', pb]) (by simp))
  have hq8 := hq7.only ho8 (fun hm => by have := hR7.own2 _ hm; omega)
  clear hR6 hb6 hb50 z5 ha6 ho7 hR7 hb60 HE1 HE2 hb70 hq7 hq6 hR hq5 ho8 hb7 hdA hdB hmA hmB h0b hs1d
  obtain ⟨hC1, hC2⟩ := pmod_is cut0 (k + 1) (by omega) (by omega)
  generalize pmod cut0 (k + 1) = ct at *
  have HC1 : Hid (wrap64 ((IntKind.u64.wrap cut0).tmod ((k : Int) + 1)) = (ct : Int)) := hC1
  clear hC1
  have hl3c : (s2.cut (ct : Int) mask).left = (ct : Int) := by show max (ct : Int) (-1) = _; omega
  have hcI : (ct : Int) ≤ 9223372036854775807 := by omega
  rcases (by omega : xk = 0 ∨ xk = 1) with rfl | rfl
  · as_aux_lemma =>
      rw [show ((0 : Nat) : Int) = 0 from rfl]
      obtain ⟨r, l3, s4, cnt3, hW1, hr, hcb, hcp, hO, hL3, hd4, hW2⟩ := wipes_plain HOK.out hk (xI := 0) (oI := 1) (bI := 0) (pI := (k : Int)) (Or.inl ⟨rfl, rfl, rfl, rfl⟩) (s2.cut (ct : Int) mask) l2 (by rw [hn]; exact hL2) hs2o hl3c
      obtain ⟨l5, s6, cnt5, hW3, hFF⟩ := hW2 s4.on rfl rfl
      rw [hn] at hFF
      obtain ⟨m1, hm1⟩ : ∃ m1, halfL G l2 1 = m1 := ⟨_, rfl⟩
      have hm1l : m1.length = n := by rw [← hm1, halfL_length (by rw [hn]; exact hL2) (Or.inr rfl), hn]
      have HM1 := Lib.hid hm1
      have HM2 := Lib.hid (hO.trans hm1)
      have HML := Lib.hid hm1l
      have HW1 := Lib.hid hW1
      have HW3 := Lib.hid hW3
      have HFF := Lib.hid hFF
      have HCB := Lib.hid hcb
      have HCP := Lib.hid hcp
      have HRR := Lib.hid hr
      have hA1 := Lib.hid (show halfA 1 = 0 by decide)
      have hA0 := Lib.hid (show halfA 0 = 0 by decide)
      have hd3 : (s2.cut (ct : Int) mask).done = s2.done := rfl
      have hd5 : s4.on.done = s4.done := rfl
      have hmm := Lib.hid (show (m1 == m1) = true by simp)
      clear hr hm1 hO hm1l hW1 hW3 hFF hcb hcp hW2 hL2 hn hk
      go_upto_region 10 with (go_at_call 53; refine (half_read hR8 1 HM1.out hA1.out HML.out).mono ?_; rintro e w9 ⟨A16, c16, rfl, hc16, hy16, hA16, hb9⟩)
      have hlt8 : ∀ y ∈ [bb, mb', pb], y < w8.heap.size := fun y hy => by
        have h1 := hR8.c.lt
        have h2 := hR8.lt
        simp at hy
        rcases hy with rfl | rfl | rfl
        · exact h2.1
        · exact h1 _ (by simp)
        · exact h2.2
      have HLT : Hid (∀ y, A16 = some y → y.block ∉ [bb, mb', pb]) := fun y e hm => by have := hA16 y e; have := hlt8 _ hm; omega
      clear hA16 hlt8
      have hR9 := hR8.below hb9
      have hq9 := hq8.below hb9
      have hb90 := hb80.trans (hb9.mono hb80.size)
      have b0 := HB0.out _ hq9
      clear hR8 hq8 hb80 hb9
      go_upto_region 12 with fail
      rw [HC1.out]
      clear b0
      go_upto_region 13 with (go_at_call 25; refine (rig_cut hR9 (ct : Int) mask hcI).mono ?_; rintro e w10 ⟨rfl, hR10, ho10⟩)
      have hb100 := hR9.fresh (Nat.le_succ _) hb90 hs0 (ho10.mono (S' := [bb, mb', pb]) (by simp))
      have hy10 := hy16.only ho10 (fun y e h0 hm => HLT.out y e (by simp at hm ⊢; omega))
      clear hR9 hb90 ho10 hy16 hq9
      have hdw : (s2.cut (ct : Int) mask).done ≤ 100000000000 := by rw [hd3]; omega
      go_upto_region 14 with (go_at_call 56; refine (half_wipe hR10 (by decide) 0 hdw HW1.out).mono ?_; rintro e w11 ⟨rfl, ⟨N1, hN1, hR11⟩, ho11⟩)
      have hb110 := hR10.fresh (Nat.le_succ _) hb100 hs0 ho11
      have hy11 := hy10.only ho11 (fun y e h0 hm => HLT.out y e hm)
      clear hR10 hb100 ho11 hy10 HW1
      go_upto_region 15 with (go_at_call 26; refine (rig_on hR11).mono ?_; rintro e w12 ⟨rfl, hR12, ho12⟩)
      have hb120 := hR11.fresh (Nat.le_succ _) hb110 hs0 (ho12.mono (S' := [bb, mb', pb]) (by simp))
      have hy12 := hy11.only ho12 (fun y e h0 hm => HLT.out y e (by simp at hm ⊢; omega))
      clear hR11 hb110 ho12 hy11
      go_upto_region 16 with (go_at_call 53; refine (half_read hR12 1 HM2.out hA1.out HML.out).mono ?_; rintro e w13 ⟨A20, c20, rfl, hc20, hy20, hA20, hb13⟩)
      have hlt12 : ∀ y ∈ [bb, mb', pb], y < w12.heap.size := fun y hy => by
        have h1 := hR12.c.lt
        have h2 := hR12.lt
        simp at hy
        rcases hy with rfl | rfl | rfl
        · exact h2.1
        · exact h1 _ (by simp)
        · exact h2.2
      have HLT2 : Hid ((∀ y, A16 = some y → y.block ∉ [bb, mb', pb]) ∧ (∀ y, A20 = some y → y.block ∉ [bb, mb', pb])) := ⟨HLT.out, fun y e hm => by have := hA20 y e; have := hlt12 _ hm; omega⟩
      clear hA20 hlt12 HLT
      have hR13 := hR12.below hb13
      have hb130 := hb120.trans (hb13.mono hb120.size)
      have hy13 := hy12.below hb13
      clear hR12 hb120 hb13 hy12
      go_upto_block 0 with fail
      go_cut [22] (fun v22 w' => w' = w13)
      case first =>
        go_upto_region 17 with fail
        go_loopw [22] (fun v22 wr => ∃ i : Nat, i ≤ k ∧ v22 = .int .i64 (i : Int) ∧ wr = w13) (fun v22 _ => k - (intOf v22).toNat)
        case atStart => exact ⟨0, Nat.zero_le _, rfl, rfl⟩
        case round =>
          obtain ⟨i, hi, rfl, rfl⟩ := hrel
          by_cases hlt : i < k
          · have hltI : (i : Int) < (k : Int) := by omega
            have C1 : Calls Try.prog 22 #[.pointer (some ⟨cb, 0, none⟩), .int .i64 (i : Int)] wr fun e w' => e = .returned (.int .i64 (if k - ct ≤ i then 1 else 0)) ∧ wr = w' := by
              have h1 := HCB.out i hlt
              first | rw [Int.zero_add] at h1 | skip
              rw [← h1]
              exact nor_erases hR13.c _ (by omega)
            have C2 : Calls Try.prog 22 #[.pointer (some ⟨cb, 0, none⟩), .int .i64 ((k : Int) + (i : Int))] wr fun e w' => e = .returned (.int .i64 0) ∧ wr = w' := by
              have h1 := HCP.out i hlt
              first | rw [Int.zero_add] at h1 | skip
              rw [← h1]
              exact nor_erases hR13.c _ (by omega)
            have HC1' := Lib.hid C1
            have HC2' := Lib.hid C2
            clear C1 C2
            by_cases e : k - ct ≤ i
            · have eI : (k : Int) - (ct : Int) ≤ (i : Int) := by omega
              have hv : (if k - ct ≤ i then (1 : Int) else 0) = 1 := if_pos e
              rw [hv] at HC1'
              clear hv
              go_wp2_with (go_at_call 22; first
                | (with_reducible refine HC1'.out.mono ?_); rintro e w' ⟨rfl, rfl⟩
                | (with_reducible refine HC2'.out.mono ?_); rintro e w' ⟨rfl, rfl⟩)
              go_roundw
              case rel => exact ⟨i + 1, by omega, by go_num, trivial⟩
              case measure => simp [intOf]; omega
            · have eI : ¬ ((k : Int) - (ct : Int) ≤ (i : Int)) := by omega
              have hv : (if k - ct ≤ i then (1 : Int) else 0) = 0 := if_neg e
              rw [hv] at HC1'
              clear hv
              go_wp2_with (go_at_call 22; first
                | (with_reducible refine HC1'.out.mono ?_); rintro e w' ⟨rfl, rfl⟩
                | (with_reducible refine HC2'.out.mono ?_); rintro e w' ⟨rfl, rfl⟩)
              go_roundw
              case rel => exact ⟨i + 1, by omega, by go_num, trivial⟩
              case measure => simp [intOf]; omega
          · obtain rfl : i = k := by omega
            go_wp2_with fail
            go_meet
            exact rfl
      case rest =>
      subst hcut
      obtain ⟨w13, rfl⟩ : ∃ w, w = wc := ⟨_, rfl⟩
      have hdw2 : s4.on.done ≤ 100000000000 := by rw [hd5]; omega
      go_upto_region 23 with (go_at_call 56; refine (half_wipe hR13 (by omega) 0 hdw2 HW3.out).mono ?_; rintro e w14 ⟨rfl, ⟨N2, hN2, hR14⟩, ho14⟩)
      have hb140 := hR13.fresh (Nat.le_succ _) hb130 hs0 ho14
      have hy14 := hy13.only ho14 (fun y e h0 hm => HLT2.out.1 y e hm)
      have hy20' := hy20.only ho14 (fun y e h0 hm => HLT2.out.2 y e hm)
      clear hR13 hb130 ho14 hy13 hy20 HW3
      go_upto_region 24 with (go_at_call 53; refine (half_read hR14 0 HFF.out hA0.out (ffs_length n)).mono ?_; rintro e w15 ⟨A25, c25, rfl, hc25, hy25, -, hb15⟩)
      have hb150 := hb140.trans (hb15.mono hb140.size)
      have hy15 := hy14.below hb15
      have hy20b := hy20'.below hb15
      clear hR14 hb140 hb15 hy14 hy20'
      go_upto_block 2 with fail
      go_cut [27] (fun v27 w' => w' = w15)
      case first =>
        go_upto_region 25 with fail
        go_loopw [27] (fun v27 wr => ∃ (i : Nat), i ≤ n ∧ v27 = .int .i64 (i : Int) ∧ wr = w15) (fun v27 _ => n - (intOf v27).toNat)
        case atStart => exact ⟨0, Nat.zero_le _, rfl, rfl⟩
        case round =>
          obtain ⟨i, hi, rfl, rfl⟩ := hrel
          by_cases hlt : i < n
          · have hltI : (i : Int) < (n : Int) := by omega
            obtain ⟨g, o, rfl, hcell⟩ := hy25.at (k := i) (by rw [ffs_length]; exact hlt)
            have hcell' : wr.cell? ⟨g, o + i, none⟩ = some (.int .u8 255) := by
              rw [hcell]
              have : (ffs n)[i]'(by rw [ffs_length]; exact hlt) = 255 := by simp [ffs]
              rw [this]
              rfl
            clear hcell
            go_wp2_with fail
            go_roundw
            case rel => exact ⟨i + 1, by omega, by go_num, trivial⟩
            case measure => simp [intOf]; omega
          · obtain rfl : i = n := by omega
            go_wp2_with fail
            go_meet
            exact rfl
      case rest =>
      subst hcut
      obtain ⟨w15, rfl⟩ : ∃ w, w = wc := ⟨_, rfl⟩
      have hR9 := HRR.out
      clear HRR hy25
      by_cases hk9 : k ≤ ct
      · rw [if_pos hk9] at hR9
        subst hR9
        have hkI : (k : Int) ≤ (ct : Int) := by omega
        go_wp2_with (go_at_call 23; refine (help_bytes A16 n c16 m1 A20 n c20 m1 _ hy15 HML.out.symm hy20b HML.out.symm).mono ?_; rintro e w' ⟨rfl, rfl⟩; rw [hmm.out])
        go_ret
        exact ⟨rfl, hb150⟩
      · rw [if_neg hk9] at hR9
        subst hR9
        have hkI : ¬ ((k : Int) ≤ (ct : Int)) := by omega
        go_wp2_with (go_at_call 23; refine (help_bytes A16 n c16 m1 A20 n c20 m1 _ hy15 HML.out.symm hy20b HML.out.symm).mono ?_; rintro e w' ⟨rfl, rfl⟩; rw [hmm.out])
        go_ret
        exact ⟨rfl, hb150⟩
  · as_aux_lemma =>
      rw [show ((1 : Nat) : Int) = 1 from rfl]
      obtain ⟨r, l3, s4, cnt3, hW1, hr, hcb, hcp, hO, hL3, hd4, hW2⟩ := wipes_plain HOK.out hk (xI := 1) (oI := 0) (bI := (k : Int)) (pI := 0) (Or.inr ⟨rfl, rfl, rfl, rfl⟩) (s2.cut (ct : Int) mask) l2 (by rw [hn]; exact hL2) hs2o hl3c
      obtain ⟨l5, s6, cnt5, hW3, hFF⟩ := hW2 s4.on rfl rfl
      rw [hn] at hFF
      obtain ⟨m1, hm1⟩ : ∃ m1, halfL G l2 0 = m1 := ⟨_, rfl⟩
      have hm1l : m1.length = n := by rw [← hm1, halfL_length (by rw [hn]; exact hL2) (Or.inl rfl), hn]
      have HM1 := Lib.hid hm1
      have HM2 := Lib.hid (hO.trans hm1)
      have HML := Lib.hid hm1l
      have HW1 := Lib.hid hW1
      have HW3 := Lib.hid hW3
      have HFF := Lib.hid hFF
      have HCB := Lib.hid hcb
      have HCP := Lib.hid hcp
      have HRR := Lib.hid hr
      have hA1 := Lib.hid (show halfA 0 = 0 by decide)
      have hA0 := Lib.hid (show halfA 1 = 0 by decide)
      have hd3 : (s2.cut (ct : Int) mask).done = s2.done := rfl
      have hd5 : s4.on.done = s4.done := rfl
      have hmm := Lib.hid (show (m1 == m1) = true by simp)
      clear hr hm1 hO hm1l hW1 hW3 hFF hcb hcp hW2 hL2 hn hk
      go_upto_region 10 with (go_at_call 53; refine (half_read hR8 0 HM1.out hA1.out HML.out).mono ?_; rintro e w9 ⟨A16, c16, rfl, hc16, hy16, hA16, hb9⟩)
      have hlt8 : ∀ y ∈ [bb, mb', pb], y < w8.heap.size := fun y hy => by
        have h1 := hR8.c.lt
        have h2 := hR8.lt
        simp at hy
        rcases hy with rfl | rfl | rfl
        · exact h2.1
        · exact h1 _ (by simp)
        · exact h2.2
      have HLT : Hid (∀ y, A16 = some y → y.block ∉ [bb, mb', pb]) := fun y e hm => by have := hA16 y e; have := hlt8 _ hm; omega
      clear hA16 hlt8
      have hR9 := hR8.below hb9
      have hq9 := hq8.below hb9
      have hb90 := hb80.trans (hb9.mono hb80.size)
      have b0 := HB0.out _ hq9
      clear hR8 hq8 hb80 hb9
      go_upto_region 12 with fail
      rw [HC1.out]
      clear b0
      go_upto_region 13 with (go_at_call 25; refine (rig_cut hR9 (ct : Int) mask hcI).mono ?_; rintro e w10 ⟨rfl, hR10, ho10⟩)
      have hb100 := hR9.fresh (Nat.le_succ _) hb90 hs0 (ho10.mono (S' := [bb, mb', pb]) (by simp))
      have hy10 := hy16.only ho10 (fun y e h0 hm => HLT.out y e (by simp at hm ⊢; omega))
      clear hR9 hb90 ho10 hy16 hq9
      have hdw : (s2.cut (ct : Int) mask).done ≤ 100000000000 := by rw [hd3]; omega
      go_upto_region 14 with (go_at_call 56; refine (half_wipe hR10 (by decide) 1 hdw HW1.out).mono ?_; rintro e w11 ⟨rfl, ⟨N1, hN1, hR11⟩, ho11⟩)
      have hb110 := hR10.fresh (Nat.le_succ _) hb100 hs0 ho11
      have hy11 := hy10.only ho11 (fun y e h0 hm => HLT.out y e hm)
      clear hR10 hb100 ho11 hy10 HW1
      go_upto_region 15 with (go_at_call 26; refine (rig_on hR11).mono ?_; rintro e w12 ⟨rfl, hR12, ho12⟩)
      have hb120 := hR11.fresh (Nat.le_succ _) hb110 hs0 (ho12.mono (S' := [bb, mb', pb]) (by simp))
      have hy12 := hy11.only ho12 (fun y e h0 hm => HLT.out y e (by simp at hm ⊢; omega))
      clear hR11 hb110 ho12 hy11
      go_upto_region 16 with (go_at_call 53; refine (half_read hR12 0 HM2.out hA1.out HML.out).mono ?_; rintro e w13 ⟨A20, c20, rfl, hc20, hy20, hA20, hb13⟩)
      have hlt12 : ∀ y ∈ [bb, mb', pb], y < w12.heap.size := fun y hy => by
        have h1 := hR12.c.lt
        have h2 := hR12.lt
        simp at hy
        rcases hy with rfl | rfl | rfl
        · exact h2.1
        · exact h1 _ (by simp)
        · exact h2.2
      have HLT2 : Hid ((∀ y, A16 = some y → y.block ∉ [bb, mb', pb]) ∧ (∀ y, A20 = some y → y.block ∉ [bb, mb', pb])) := ⟨HLT.out, fun y e hm => by have := hA20 y e; have := hlt12 _ hm; omega⟩
      clear hA20 hlt12 HLT
      have hR13 := hR12.below hb13
      have hb130 := hb120.trans (hb13.mono hb120.size)
      have hy13 := hy12.below hb13
      clear hR12 hb120 hb13 hy12
      go_upto_block 0 with fail
      go_cut [22] (fun v22 w' => w' = w13)
      case first =>
        go_upto_region 17 with fail
        go_loopw [22] (fun v22 wr => ∃ i : Nat, i ≤ k ∧ v22 = .int .i64 (i : Int) ∧ wr = w13) (fun v22 _ => k - (intOf v22).toNat)
        case atStart => exact ⟨0, Nat.zero_le _, rfl, rfl⟩
        case round =>
          obtain ⟨i, hi, rfl, rfl⟩ := hrel
          by_cases hlt : i < k
          · have hltI : (i : Int) < (k : Int) := by omega
            have C1 : Calls Try.prog 22 #[.pointer (some ⟨cb, 0, none⟩), .int .i64 ((k : Int) + (i : Int))] wr fun e w' => e = .returned (.int .i64 (if k - ct ≤ i then 1 else 0)) ∧ wr = w' := by
              have h1 := HCB.out i hlt
              first | rw [Int.zero_add] at h1 | skip
              rw [← h1]
              exact nor_erases hR13.c _ (by omega)
            have C2 : Calls Try.prog 22 #[.pointer (some ⟨cb, 0, none⟩), .int .i64 (i : Int)] wr fun e w' => e = .returned (.int .i64 0) ∧ wr = w' := by
              have h1 := HCP.out i hlt
              first | rw [Int.zero_add] at h1 | skip
              rw [← h1]
              exact nor_erases hR13.c _ (by omega)
            have HC1' := Lib.hid C1
            have HC2' := Lib.hid C2
            clear C1 C2
            by_cases e : k - ct ≤ i
            · have eI : (k : Int) - (ct : Int) ≤ (i : Int) := by omega
              have hv : (if k - ct ≤ i then (1 : Int) else 0) = 1 := if_pos e
              rw [hv] at HC1'
              clear hv
              go_wp2_with (go_at_call 22; first
                | (with_reducible refine HC1'.out.mono ?_); rintro e w' ⟨rfl, rfl⟩
                | (with_reducible refine HC2'.out.mono ?_); rintro e w' ⟨rfl, rfl⟩)
              go_roundw
              case rel => exact ⟨i + 1, by omega, by go_num, trivial⟩
              case measure => simp [intOf]; omega
            · have eI : ¬ ((k : Int) - (ct : Int) ≤ (i : Int)) := by omega
              have hv : (if k - ct ≤ i then (1 : Int) else 0) = 0 := if_neg e
              rw [hv] at HC1'
              clear hv
              go_wp2_with (go_at_call 22; first
                | (with_reducible refine HC1'.out.mono ?_); rintro e w' ⟨rfl, rfl⟩
                | (with_reducible refine HC2'.out.mono ?_); rintro e w' ⟨rfl, rfl⟩)
              go_roundw
              case rel => exact ⟨i + 1, by omega, by go_num, trivial⟩
              case measure => simp [intOf]; omega
          · obtain rfl : i = k := by omega
            go_wp2_with fail
            go_meet
            exact rfl
      case rest =>
      subst hcut
      obtain ⟨w13, rfl⟩ : ∃ w, w = wc := ⟨_, rfl⟩
      have hdw2 : s4.on.done ≤ 100000000000 := by rw [hd5]; omega
      go_upto_region 23 with (go_at_call 56; refine (half_wipe hR13 (by omega) 1 hdw2 HW3.out).mono ?_; rintro e w14 ⟨rfl, ⟨N2, hN2, hR14⟩, ho14⟩)
      have hb140 := hR13.fresh (Nat.le_succ _) hb130 hs0 ho14
      have hy14 := hy13.only ho14 (fun y e h0 hm => HLT2.out.1 y e hm)
      have hy20' := hy20.only ho14 (fun y e h0 hm => HLT2.out.2 y e hm)
      clear hR13 hb130 ho14 hy13 hy20 HW3
      go_upto_region 24 with (go_at_call 53; refine (half_read hR14 1 HFF.out hA0.out (ffs_length n)).mono ?_; rintro e w15 ⟨A25, c25, rfl, hc25, hy25, -, hb15⟩)
      have hb150 := hb140.trans (hb15.mono hb140.size)
      have hy15 := hy14.below hb15
      have hy20b := hy20'.below hb15
      clear hR14 hb140 hb15 hy14 hy20'
      go_upto_block 2 with fail
      go_cut [27] (fun v27 w' => w' = w15)
      case first =>
        go_upto_region 25 with fail
        go_loopw [27] (fun v27 wr => ∃ (i : Nat), i ≤ n ∧ v27 = .int .i64 (i : Int) ∧ wr = w15) (fun v27 _ => n - (intOf v27).toNat)
        case atStart => exact ⟨0, Nat.zero_le _, rfl, rfl⟩
        case round =>
          obtain ⟨i, hi, rfl, rfl⟩ := hrel
          by_cases hlt : i < n
          · have hltI : (i : Int) < (n : Int) := by omega
            obtain ⟨g, o, rfl, hcell⟩ := hy25.at (k := i) (by rw [ffs_length]; exact hlt)
            have hcell' : wr.cell? ⟨g, o + i, none⟩ = some (.int .u8 255) := by
              rw [hcell]
              have : (ffs n)[i]'(by rw [ffs_length]; exact hlt) = 255 := by simp [ffs]
              rw [this]
              rfl
            clear hcell
            go_wp2_with fail
            go_roundw
            case rel => exact ⟨i + 1, by omega, by go_num, trivial⟩
            case measure => simp [intOf]; omega
          · obtain rfl : i = n := by omega
            go_wp2_with fail
            go_meet
            exact rfl
      case rest =>
      subst hcut
      obtain ⟨w15, rfl⟩ : ∃ w, w = wc := ⟨_, rfl⟩
      have hR9 := HRR.out
      clear HRR hy25
      by_cases hk9 : k ≤ ct
      · rw [if_pos hk9] at hR9
        subst hR9
        have hkI : (k : Int) ≤ (ct : Int) := by omega
        go_wp2_with (go_at_call 23; refine (help_bytes A16 n c16 m1 A20 n c20 m1 _ hy15 HML.out.symm hy20b HML.out.symm).mono ?_; rintro e w' ⟨rfl, rfl⟩; rw [hmm.out])
        go_ret
        exact ⟨rfl, hb150⟩
      · rw [if_neg hk9] at hR9
        subst hR9
        have hkI : ¬ ((k : Int) ≤ (ct : Int)) := by omega
        go_wp2_with (go_at_call 23; refine (help_bytes A16 n c16 m1 A20 n c20 m1 _ hy15 HML.out.symm hy20b HML.out.symm).mono ?_; rintro e w' ⟨rfl, rfl⟩; rw [hmm.out])
        go_ret
        exact ⟨rfl, hb150⟩
end Go.Proofs.Ytcdgpioljilgeaa
