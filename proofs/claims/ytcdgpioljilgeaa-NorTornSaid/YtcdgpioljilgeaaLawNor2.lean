/- The walk of the law NorTorn. -/
import Derived.Test.YtcdgpioljilgeaaLawNor
import Derived.RegionTactic
set_option linter.unusedVariables false
set_option maxRecDepth 100000
set_option linter.unusedSimpArgs false
namespace Go.Proofs.Ytcdgpioljilgeaa
open Go.RowKit

theorem sub_and (x a : UInt8) : ((x &&& a) &&& ~~~ a) = 0 := by
  rw [and_not_zero, UInt8.and_assoc, UInt8.and_self]

/-- Bytes are parts of those that stand there. -/
theorem bitsBad_part (l : List UInt8) (xs : List UInt8) (h : ∀ k, k < xs.length → (xs.getD k 0 &&& ~~~ (l.getD k 0)) = 0) : bitsBad l 0 xs = false := by
  refine bitsBad_all _ _ _ fun i hi => ?_
  have := h i hi
  rw [List.getD_eq_getElem?_getD, List.getElem?_eq_getElem hi, Option.getD_some] at this
  rw [Nat.zero_add]
  exact this

/-- What stands there behind a step that is torn. -/
def tornL (l xs : List UInt8) (k : Nat) (m : UInt8) : List UInt8 :=
  if h : k < xs.length then (splice l 0 (xs.take k)).set k (xs[k] ||| (l.getD k 0 &&& m)) else splice l 0 xs

theorem tornL_length (l xs : List UInt8) (k : Nat) (m : UInt8) (h : xs.length ≤ l.length) : (tornL l xs k m).length = l.length := by
  unfold tornL
  split
  · rw [List.length_set, splice_length _ _ _ (by rw [List.length_take]; omega)]
  · rw [splice_length _ _ _ (by omega)]

theorem tornL_at (l xs : List UInt8) (k : Nat) (m : UInt8) (h : xs.length ≤ l.length) (i : Nat) (hi : i < l.length) {av : UInt8} (hav : l[i]? = some av) :
    (tornL l xs k m)[i]? = some (if i < xs.length ∧ i < k then xs.getD i 0 else if i < xs.length ∧ i = k then xs.getD i 0 ||| (av &&& m) else av) := by
  unfold tornL
  split
  · rename_i hk
    have htl : (xs.take k).length = k := by rw [List.length_take]; omega
    rw [List.getElem?_set, splice_length _ _ _ (by omega), splice_get _ _ _ (by omega), htl]
    by_cases h1 : k = i
    · subst h1
      rw [if_pos rfl, if_pos hi, if_neg (by omega), if_pos ⟨hk, rfl⟩]
      simp [List.getD_eq_getElem?_getD, hav, hk]
    · rw [if_neg h1, if_neg (by omega)]
      by_cases h2 : i < 0 + k
      · rw [if_pos h2, if_pos (by omega), List.getElem?_take_of_lt (by omega), Nat.sub_zero, List.getD_eq_getElem?_getD, List.getElem?_eq_getElem (by omega)]
        rfl
      · rw [if_neg h2, if_neg (by omega), if_neg (by omega)]
        exact hav
  · rename_i hk
    rw [splice_get _ _ _ (by omega), if_neg (by omega)]
    by_cases h2 : i < 0 + xs.length
    · rw [if_pos h2, if_pos (by omega), Nat.sub_zero, List.getD_eq_getElem?_getD, List.getElem?_eq_getElem (by omega)]
      rfl
    · rw [if_neg h2, if_neg (by omega), if_neg (by omega)]
      exact hav

/-- Programming with so many steps left. -/
theorem progE_torn (s : PS) (l xs : List UInt8) (k : Nat) (h : xs.length ≤ l.length) (hb : bitsBad l 0 xs = false) (hoff : s.off = false) (hl : s.left = (k : Int)) :
    ∃ s', progE s l 0 xs = (if xs.length ≤ k then 0 else 6, tornL l xs k s.mask, s') ∧ s'.done ≤ s.done + xs.length ∧
      (xs.length ≤ k → s'.off = false ∧ s'.left = (k : Int) - xs.length) ∧ (¬ xs.length ≤ k → s'.off = true) := by
  by_cases hk : xs.length ≤ k
  · have h1 := progE_run s l 0 xs (by omega) hb hoff (by omega) (Or.inr (by omega))
    refine ⟨s.run xs.length, ?_, ?_, fun _ => ⟨hoff, ?_⟩, fun h => (h hk).elim⟩
    · rw [if_pos hk]
      unfold tornL
      rw [dif_neg (by omega)]
      exact h1
    · exact Nat.le_refl _
    · unfold PS.run
      simp only
      rw [if_neg (by omega), hl]
  · have h1 := progE_cut s l 0 xs k (by omega) hb hoff hl (by omega)
    refine ⟨(s.run k).stop, ?_, ?_, fun h => (hk h).elim, fun _ => rfl⟩
    · rw [if_neg hk]
      unfold tornL
      rw [dif_pos (by omega)]
      simpa using h1
    · show s.done + k ≤ _
      omega

/-- What stands there is programmed again, and power goes, or is gone. -/
theorem progE_again (s : PS) (l : List UInt8) (n : Nat) (hn : n ≤ l.length) (h0 : 0 < n) (hs : s.off = true ∨ (s.off = false ∧ 0 ≤ s.left ∧ s.left < (n : Int))) :
    ∃ s', progE s l 0 (l.take n) = (6, l, s') ∧ s'.done ≤ s.done + n := by
  have hl : (l.take n).length = n := by rw [List.length_take]; omega
  have hown : ∀ i, i < (l.take n).length → l[0 + i]? = (l.take n)[i]? := fun i hi => by rw [Nat.zero_add, List.getElem?_take_of_lt (by omega)]
  have hb := bitsBad_own l 0 (l.take n) hown
  have hsame := progL_same s l 0 (l.take n) hown
  rcases hs with h | ⟨h1, h2, h3⟩
  · exact ⟨s, progE_dark s l 0 (l.take n) (by omega) hb h (by omega), by omega⟩
  · obtain ⟨k, hk⟩ : ∃ k : Nat, s.left = (k : Int) := ⟨s.left.toNat, by omega⟩
    have h4 := progL_cut s l 0 (l.take n) k (by omega) h1 hk (by omega)
    refine ⟨(s.run k).stop, ?_, ?_⟩
    · unfold progE
      rw [if_pos (readL_zero l _ (by omega)).1, if_neg (by rw [show (0 : Int).toNat = 0 from rfl, hb]; decide), show (0 : Int).toNat = 0 from rfl, hsame, h4]
      rfl
    · show s.done + k ≤ _
      omega

set_option maxHeartbeats 8000000 in
theorem norTorn_walk {w : World} (A : Option Addr) (c : Nat) (a : List UInt8) (hcap : a.length ≤ c ∧ c ≤ maxLen) (hb : Byts w A a) (hl : a.length ≤ 140737488351232)
    (A' : Option Addr) (c' : Nat) (b : List UInt8) (hcap' : b.length ≤ c' ∧ c' ≤ maxLen) (hb' : Byts w A' b) (hl' : b.length ≤ 140737488351232)
    (x : Int) (wx : (Lit.int .i64 x).wf = true) (m0 : Int) (wm : (Lit.int .u8 m0).wf = true) :
    Calls Try.prog 4 #[.slice A a.length c, .slice A' b.length c', .int .i64 x, .int .u8 m0] w fun e w' => e = .returned (.bool true) ∧ Below w.heap.size w w' := by
  obtain ⟨w0, rfl⟩ : ∃ w0 : World, w0 = w := ⟨_, rfl⟩
  obtain ⟨m, rfl⟩ := byte_of (wf_u8 wm)
  clear wm wx
  have hs0 : w0.heap.size ≤ w0.heap.size := Nat.le_refl _
  by_cases ha100 : 100 < a.length
  · go_enter Try.func4, Try.ntmps4
    go_wp2_with (go_at_call 15; refine (awake04 _).mono ?_; rintro e w2 ⟨rfl, hb2⟩)
    go_ret
    exact ⟨rfl, hb2⟩
  by_cases hb100 : 100 < b.length
  · go_enter Try.func4, Try.ntmps4
    go_wp2_with (go_at_call 15; refine (awake04 _).mono ?_; rintro e w2 ⟨rfl, hb2⟩)
    go_ret
    exact ⟨rfl, hb2⟩
  obtain ⟨k, hk⟩ : ∃ k, pmod x 110 = k := ⟨_, rfl⟩
  have hk110 : k < 110 := by rw [← hk]; exact (pmod_is x 110 (by omega) (by omega)).2
  have HK := Lib.hid (show wrap64 ((IntKind.u64.wrap x).tmod 110) = (k : Int) by rw [← hk]; exact (pmod_is x 110 (by omega) (by omega)).1)
  clear hk
  have hE1 : progE PS.new (ffs 512) 0 a = (0, splice (ffs 512) 0 a, PS.new.run a.length) := progE_run PS.new (ffs 512) 0 a (by rw [ffs_length]; omega) (bitsBad_ffs _ _ _ (by omega)) rfl (by decide) (Or.inl (by decide))
  have hat := fun i (hi : 0 + i < 512) => splice_at 512 0 a i (by omega) hi
  have hl1l : (splice (ffs 512) 0 a).length = 512 := by rw [splice_length _ _ _ (by rw [ffs_length]; omega), ffs_length]
  generalize splice (ffs 512) 0 a = l1 at *
  have hs1 : (PS.new.run a.length).off = false ∧ (PS.new.run a.length).left = -1 ∧ (PS.new.run a.length).done = 0 + a.length := ⟨rfl, rfl, rfl⟩
  have hd0 : PS.new.done + a.length ≤ 1000000000000 := by show 0 + a.length ≤ _; omega
  generalize PS.new.run a.length = s1 at *
  have E1 := Lib.hid hE1
  have HAT := Lib.hid hat
  have HL1 := Lib.hid hl1l
  have HS1 := Lib.hid hs1
  have hd1 : s1.done ≤ 100 := by omega
  have HN := Lib.hid smallG_size
  have hok := smallG_ok
  clear hE1 hat hl1l hs1
  go_enter Try.func4, Try.ntmps4
  go_upto_region 5 with (first
    | (go_at_call 18; refine (pow_new _).mono ?_; rintro e w1 ⟨v, rfl, pb, rfl, hpg, hpl, hp1, hb1⟩; have z1 := hb1.size)
    | (go_at_call 24; refine (law04_small _).mono ?_; rintro e w2 ⟨rfl, hb2⟩; have z2 := hb2.size; have hp2 := hp1.below hb2)
    | (go_at_call 17; refine (rig_new (B := w0.heap.size) (g := smallG) hp2 (by omega) (by omega) hok).mono ?_; rintro e w3 ⟨cb, bb, mb, rfl, hR, hb3⟩))
  rw [HN.out] at hR
  have hb30 := (hb1.trans (hb2.mono z1)).trans (hb3.mono (by omega))
  have z3 := hb30.size
  clear hb1 hb2 hb3 hp1 hp2
  have hAx : 0 < a.length → ∀ y, A = some y → y.block ≠ bb ∧ y.block ≠ pb := fun h0 y e => by have h1 := hb.lt h0 y e; have h3 := hR.own2 bb (by simp); have h4 := hR.own2 pb (by simp); omega
  go_upto_region 7 with (first
    | (go_at_call 15; refine (awake04 _).mono ?_; rintro e w4 ⟨rfl, hb4⟩; have hR4 := hR.below hb4; have hb40 := hb30.trans (hb4.mono z3))
    | (go_at_call 19; refine (rig_program hR4 0 (by decide) _ _ _ a (hb.below hb40) rfl (by omega) hAx hd0 E1.out).mono ?_; rintro e w5 ⟨rfl, hR5, ho5⟩))
  have hb50 := hR4.fresh (Nat.le_refl _) hb40 hs0 (ho5.mono (by simp))
  have z5 := hb50.size
  clear hR hR4 hb30 hb4 hb40 ho5 hAx
  go_upto_region 9 with (at_builtin; refine wpList_wanted (by rfl) fun K hK => wp_clone_byts _ rfl rfl (hb'.below hb50) rfl (by omega) (Nat.le_refl _) ?_; intro r w6 hown hb6 hown2; refine hK _ _ ?_; clear hK K)
  obtain ⟨A12, c12, rfl, hc12, -, hA12⟩ := hown.byts
  have hl5 := hR5.lt
  have hL0 := Lib.hid (fun j (hj : j < 512) => (by
    have h1 := HAT.out j (by omega)
    rw [Nat.zero_add] at h1
    rw [List.getD_eq_getElem?_getD, h1, Option.getD_some]
    by_cases e : j < a.length
    · rw [if_pos e, List.getD_eq_getElem?_getD, List.getD_eq_getElem?_getD, List.getElem?_eq_getElem e]; rfl
    · rw [if_neg e, List.getD_eq_getElem?_getD, List.getElem?_eq_none (by omega)]; rfl : l1.getD j 0 = a.getD j 255))
  go_loopw [13] (fun v13 wr => ∃ (i : Nat) (xs : List UInt8), i ≤ b.length ∧ v13 = .int .i64 (i : Int) ∧ Hid (xs.length = b.length) ∧ Hid (∀ j, j < i → (xs.getD j 0 &&& ~~~ (a.getD j 255)) = 0) ∧ Own wr w5.heap.size (.slice A12 b.length c12) xs ∧ Below w5.heap.size w5 wr) (fun v13 _ => b.length - (intOf v13).toNat)
  case atStart => exact ⟨0, b, Nat.zero_le _, rfl, rfl, (fun j hj => absurd hj (Nat.not_lt_zero _)), hown, hb6⟩
  case round =>
    clear hown hb6 hown2
    obtain ⟨i, xs, hi, rfl, HX, HZ, hown, hbel⟩ := hrel
    have hbel0 := hb50.trans (hbel.mono z5)
    by_cases hboth : i < b.length ∧ i < a.length
    · obtain ⟨h1, h2⟩ := hboth
      have hix : i < xs.length := by have := HX.out; omega
      obtain ⟨g, c2, e, hc2, hg1, hg2, hcell, hfrz⟩ := hown.form (by omega)
      simp only [Value.slice.injEq] at e
      obtain ⟨rfl, -, rfl⟩ := e
      have hci := hcell i hix
      have hf := hfrz i
      obtain ⟨ba, offa, rfl, hca⟩ := (hb.below hbel0).at h2
      have hand := and_u8 xs[i] a[i]
      have hset := hown.set i (xs[i] &&& a[i])
      have HZ2 := Lib.hid (show ∀ j, j < i + 1 → ((xs.set i (xs[i] &&& a[i])).getD j 0 &&& ~~~ (a.getD j 255)) = 0 from fun j hj => by
        rw [List.getD_eq_getElem?_getD, List.getElem?_set]
        by_cases e : i = j
        · subst e
          rw [if_pos rfl, if_pos hix, Option.getD_some, List.getD_eq_getElem?_getD, List.getElem?_eq_getElem h2, Option.getD_some]
          exact sub_and _ _
        · rw [if_neg e, ← List.getD_eq_getElem?_getD]
          exact HZ.out j (by omega))
      have HXL := Lib.hid (show (xs.set i (xs[i] &&& a[i])).length = b.length by rw [List.length_set]; exact HX.out)
      have hbel2 := hbel.setCell (p := ⟨g, i, none⟩) hg1 (.int .u8 ((xs[i] &&& a[i]).toNat : Int))
      have HB2 := Lib.hid (And.intro hset hbel2)
      have q0 : (0 : Int) ≤ (i : Int) := by omega
      have q1 : (i : Int) < (b.length : Int) := by omega
      have q2 : (i : Int) < (a.length : Int) := by omega
      clear hset hbel2 hcell hfrz hown hbel hbel0 HX HZ
      generalize xs.set i (xs[i] &&& a[i]) = xs2 at *
      generalize (xs[i] &&& a[i]) = vv at *
      generalize xs[i] = xi at *
      generalize a[i] = ai at *
      go_upto_region 11 with fail
      go_region
      clear hci hca hf hand q0 q1 q2
      go_wp2_with fail
      go_roundw
      case rel => exact ⟨i + 1, xs2, by omega, by go_num, HXL.out, HZ2.out, HB2.out.1.below (below_drewN (Below.refl _ _) 1), below_drewN HB2.out.2 1⟩
      case measure => simp [intOf]; omega
    · have hbp := bitsBad_part l1 xs (fun j hj => by
        have hxl := HX.out
        rw [hL0.out j (by omega)]
        by_cases e : j < i
        · exact HZ.out j e
        · have : a.length ≤ j := by omega
          rw [List.getD_eq_getElem?_getD (l := a), List.getElem?_eq_none (by omega)]
          exact UInt8.and_zero)
      have hE2 := progE_torn (s1.cut (k : Int) m) l1 xs k (by have := HL1.out; have := HX.out; omega) hbp HS1.out.1 (by show max (k : Int) (-1) = _; omega)
      obtain ⟨s3, hE2, hd3, hs3a, hs3b⟩ := hE2
      have hd3' : s3.done ≤ 200 := by have hh : (s1.cut (k : Int) m).done = s1.done := rfl; have := HX.out; omega
      rw [show (s1.cut (k : Int) m).mask = m from rfl, HX.out] at hE2
      rw [HX.out] at hs3a hs3b
      have hl2 := tornL_length l1 xs k m (by have := HL1.out; have := HX.out; omega)
      rw [HL1.out] at hl2
      have HTA := Lib.hid (fun i (hi : i < 120) (av : UInt8) (hav : l1[i]? = some av) => HX.out ▸ tornL_at l1 xs k m (by have := HL1.out; have := HX.out; omega) i (by have := HL1.out; omega) hav)
      generalize tornL l1 xs k m = l2 at *
      have HL2 := Lib.hid hl2
      have R1 := Lib.hid (readL_zero l2 120 (by omega))
      have HTL := Lib.hid (show (l2.take 120).length = 120 by rw [List.length_take]; omega)
      have hby := hown.read
      have hdc : (s1.cut (k : Int) m).done + xs.length ≤ 1000000000000 := by have hh : (s1.cut (k : Int) m).done = s1.done := rfl; have := HX.out; omega
      obtain ⟨r, hr, hrk⟩ : ∃ r : Int, (if b.length ≤ k then 0 else 6 : Int) = r ∧ ((b.length ≤ k ∧ r = 0) ∨ (¬ b.length ≤ k ∧ r = 6)) := by
        by_cases e : b.length ≤ k
        · exact ⟨0, if_pos e, Or.inl ⟨e, rfl⟩⟩
        · exact ⟨6, if_neg e, Or.inr ⟨e, rfl⟩⟩
      rw [hr] at hE2
      obtain ⟨s4, hE3, hd4⟩ := progE_again s3 l2 120 (by omega) (by decide) (by
        by_cases e : b.length ≤ k
        · right; have := hs3a e; exact ⟨this.1, by omega, by omega⟩
        · left; exact hs3b e)
      have hd4' : s4.done ≤ 400 := by omega
      have E2 := Lib.hid hE2
      have E3 := Lib.hid hE3
      have hR6 := hR5.below hbel
      clear hE2 hE3 hr hs3a hs3b hd3 hd4 hl2 hbp hown hR5
      have hexit : i = b.length ∨ (i < b.length ∧ a.length ≤ i) := by omega
      clear hboth
      rcases hexit with rfl | ⟨hexit, hexit2⟩
      all_goals
        go_upto_region 13 with fail
        rw [HK.out]
        go_upto_region 14 with (go_at_call 25; refine (rig_cut hR6 (k : Int) m (by omega)).mono ?_; rintro e w7 ⟨rfl, hR7, ho7⟩)
        have hb70 := hR6.fresh (Nat.le_refl _) hbel0 hs0 (ho7.mono (by simp))
        have hby7 := hby.only ho7 (fun y e _ => by have h1 := (hA12 y e).1; simp; omega)
        have hAy : 0 < xs.length → ∀ y, A12 = some y → y.block ≠ bb ∧ y.block ≠ pb := fun _ y e => by have h1 := (hA12 y e).1; omega
        clear hR6 ho7 hby hbel hbel0
        rcases hrk with ⟨hbk, rfl⟩ | ⟨hbk, rfl⟩
        all_goals
          go_upto_region 15 with (go_at_call 19; refine (rig_program hR7 0 (by decide) _ _ _ xs hby7 HX.out.symm (by have := HX.out; omega) hAy hdc E2.out).mono ?_; rintro e w8 ⟨rfl, hR8, ho8⟩)
          have hb80 := hR7.fresh (Nat.le_refl _) hb70 hs0 (ho8.mono (by simp))
          have hby8 := hby7.only ho8 (fun y e _ => by have h1 := (hA12 y e).1; simp; omega)
          clear hR7 ho8 hby7 hb70
          go_upto_region 17 with fail
          go_upto_region 18 with (go_at_call 20; refine (rig_read hR8 0 120 (by decide) (by decide) R1.out.1 R1.out.2 HTL.out).mono ?_; rintro e w9 ⟨A15, c15, rfl, hc15, hby15, hA15, hb9⟩)
          have hR9 := hR8.below hb9
          have hl9 := hR8.lt
          have hmb := hR8.c.lt mb (by simp)
          have hb90 := hb80.trans (hb9.mono hb80.size)
          have hby9 := hby8.below hb9
          clear hR8 hb9 hb80 hby8
          go_upto_region 21 with fail
          go_loop [17] (fun v17 => ∃ i : Nat, i ≤ 120 ∧ v17 = .int .i64 (i : Int)) (fun v17 => 120 - (intOf v17).toNat)
          case atStart => exact ⟨0, Nat.zero_le _, rfl⟩
          case round =>
            obtain ⟨j, hj, rfl⟩ := hrel
            by_cases hlt : j < 120
            · have hTA := HTA.out j hlt
              have hj15 : j < (l2.take 120).length := by rw [HTL.out]; exact hlt
              obtain ⟨b15, o15, rfl, hc15i⟩ := hby15.at hj15
              have hl2j : l2[j]? = some ((l2.take 120)[j]'hj15) := by rw [← List.getElem?_eq_getElem hj15, List.getElem?_take_of_lt hlt]
              generalize (l2.take 120)[j]'hj15 = gv at *
              have HGV := Lib.hid hl2j
              have HTA2 := Lib.hid hTA
              clear hl2j hTA
              go_upto_if 129 with fail
              go_cut [18] (fun v18 w' => ∃ av : UInt8, v18 = .int .u8 (av.toNat : Int) ∧ Hid (l1[j]? = some av) ∧ w' = w9)
              case first =>
                have hati := HAT.out j (by omega)
                rw [Nat.zero_add] at hati
                by_cases hia : j < a.length
                · rw [if_pos hia, List.getD_eq_getElem?_getD, List.getElem?_eq_getElem hia] at hati
                  obtain ⟨a', offa, rfl, hca⟩ := (hb.below hb90).at hia
                  have HATI := Lib.hid hati
                  clear hati
                  go_wp2_with fail
                  go_meet
                  exact ⟨a[j], rfl, HATI.out, rfl⟩
                · rw [if_neg hia] at hati
                  have HATI := Lib.hid hati
                  clear hati
                  go_wp2_with fail
                  go_meet
                  exact ⟨255, rfl, HATI.out, rfl⟩
              case rest =>
                obtain ⟨av, rfl, HAV, rfl⟩ := hcut
                have hT := (HTA2.out av HAV.out).symm.trans HGV.out
                clear HTA2 HAV HGV
                by_cases h1 : j < b.length
                · have hjx : j < xs.length := by rw [HX.out]; exact h1
                  obtain ⟨b12, o12, rfl, hc12i⟩ := hby9.at hjx
                  have hgd : xs.getD j 0 = xs[j] := by rw [List.getD_eq_getElem?_getD, List.getElem?_eq_getElem hjx]; rfl
                  rw [hgd] at hT
                  generalize xs[j] = xv at *
                  by_cases h2 : j < k
                  · rw [if_pos ⟨h1, h2⟩] at hT
                    obtain rfl := Option.some.inj hT
                    have hjk : ¬ (j : Int) = (k : Int) := by omega
                    have hjk2 : ((j : Int) == (k : Int)) = false := beq_eq_false_iff_ne.2 hjk
                    clear hT hgd hj15 hA15 hAy hA12
                    go_wp2_with fail
                    go_round
                    case rel => exact ⟨j + 1, by omega, by go_num⟩
                    case measure => simp [intOf]; omega
                  · rw [if_neg (by omega)] at hT
                    by_cases h3 : j = k
                    · by_cases hcon : b.length ≤ k
                      · exfalso; omega
                      rw [if_pos ⟨h1, h3⟩] at hT
                      obtain rfl := Option.some.inj hT
                      have hand := and_u8 av m
                      have hor := or_u8 xv (av &&& m)
                      have hjk : (j : Int) = (k : Int) := by omega
                      have hjk2 : ((j : Int) == (k : Int)) = true := beq_iff_eq.2 hjk
                      have hjk3 : ¬ (j : Int) < (k : Int) := by omega
                      clear h3 hjk h2
                      generalize (av &&& m) = za at *
                      generalize (xv ||| za) = zz at *
                      clear hT hgd hj15 hA15 hAy hA12
                      go_wp2_with fail
                      go_round
                      case rel => exact ⟨j + 1, by omega, by go_num⟩
                      case measure => simp [intOf]; omega
                    · rw [if_neg (by omega)] at hT
                      obtain rfl := Option.some.inj hT
                      have hjk : ¬ (j : Int) = (k : Int) := by omega
                      have hjk2 : ((j : Int) == (k : Int)) = false := beq_eq_false_iff_ne.2 hjk
                      clear hT hgd hj15 hA15 hAy hA12
                      go_wp2_with fail
                      go_round
                      case rel => exact ⟨j + 1, by omega, by go_num⟩
                      case measure => simp [intOf]; omega
                · rw [if_neg (by omega), if_neg (by omega)] at hT
                  obtain rfl := Option.some.inj hT
                  clear hT hj15 hA15 hAy hA12
                  go_wp2_with fail
                  go_round
                  case rel => exact ⟨j + 1, by omega, by go_num⟩
                  case measure => simp [intOf]; omega
            · obtain rfl : j = 120 := by omega
              have hAz : 0 < (l2.take 120).length → ∀ y, A15 = some y → y.block ≠ bb ∧ y.block ≠ pb := fun _ y e => by have h1 := hA15 y e; omega
              have hd3c : s3.done + (l2.take 120).length ≤ 1000000000000 := by rw [HTL.out]; omega
              have HAz := Lib.hid hAz
              have HD3 := Lib.hid hd3c
              clear hAz hd3c hAy hA12 hby9
              go_upto_region 35 with (go_at_call 19; refine (rig_program hR9 0 (by decide) _ _ _ (l2.take 120) hby15 HTL.out.symm (by rw [HTL.out]; decide) HAz.out HD3.out E3.out).mono ?_; rintro e w10 ⟨rfl, hR10, ho10⟩)
              have hb100 := hR9.fresh (Nat.le_refl _) hb90 hs0 (ho10.mono (by simp))
              have hby10 := hby15.only ho10 (fun y e _ => by have h1 := hA15 y e; simp; omega)
              clear hR9 hb90 hby15 ho10
              go_upto_region 36 with (go_at_call 26; refine (rig_on hR10).mono ?_; rintro e w11 ⟨rfl, hR11, ho11⟩)
              have hb110 := hR10.fresh (Nat.le_refl _) hb100 hs0 (ho11.mono (by simp))
              have hby11 := hby10.only ho11 (fun y e _ => by have h1 := hA15 y e; simp; omega)
              clear hR10 hb100 hby10 ho11
              go_upto_region 37 with (go_at_call 25; refine (rig_cut hR11 0 m (by decide)).mono ?_; rintro e w12 ⟨rfl, hR12, ho12⟩)
              have hb120 := hR11.fresh (Nat.le_refl _) hb110 hs0 (ho12.mono (by simp))
              have hby12 := hby11.only ho12 (fun y e _ => by have h1 := hA15 y e; simp; omega)
              clear hR11 hb110 hby11 ho12
              have hE4 : eraseE smallG (s4.on.cut 0 m) l2 (fun _ => 0) 0 = (6, orL l2 0 256 m, (s4.on.cut 0 m).next, fun _ => 0) := by
                unfold eraseE
                rw [if_pos (by decide), if_neg (by rw [PS.did_stop rfl]; decide), if_pos (PS.torn_stop rfl rfl)]
                rfl
              have E4 := Lib.hid hE4
              have hd5 : (s4.on.cut 0 m).done ≤ 1000000000000 := by show s4.done ≤ _; omega
              have hol := orL_length l2 0 256 m (by have := HL2.out; omega)
              have R2 := Lib.hid (readL_zero (orL l2 0 256 m) 120 (by have := HL2.out; omega))
              have HTL2 := Lib.hid (show ((orL l2 0 256 m).take 120).length = 120 by rw [List.length_take]; have := HL2.out; omega)
              have HOG := Lib.hid (fun i (hi : i < 120) => orL_get l2 0 256 m (by have := HL2.out; omega) i (by have := HL2.out; omega))
              clear hE4 hol
              generalize (s4.on.cut 0 m) = s5 at *
              generalize orL l2 0 256 m = l3 at *
              have hm12 := hR12.c.lt mb (by simp)
              have hm12b := hR12.lt
              go_upto_region 38 with (go_at_call 21; refine (rig_erase hR12 (by decide) 0 (by decide) hd5 E4.out).mono ?_; rintro e w13 ⟨rfl, hR13, ho13⟩)
              have hb130 := hR12.fresh (Nat.le_refl _) hb120 hs0 ho13
              have hby13 := hby12.only ho13 (fun y e _ => by have h1 := hA15 y e; simp; omega)
              clear hR12 hb120 hby12 ho13
              go_upto_region 39 with (go_at_call 20; refine (rig_read hR13 0 120 (by decide) (by decide) R2.out.1 R2.out.2 HTL2.out).mono ?_; rintro e w14 ⟨A23, c23, rfl, hc23, hby23, hA23, hb14⟩)
              have hR14 := hR13.below hb14
              have hb140 := hb130.trans (hb14.mono hb130.size)
              have hby14 := hby13.below hb14
              clear hR13 hb130 hby13 hb14
              go_upto_region 40 with fail
              have HA15 := Lib.hid hA15
              clear hA15 hA23
              go_loopw [25] (fun v25 wr => ∃ j : Nat, j ≤ 120 ∧ v25 = .int .i64 (j : Int) ∧ Rig w0.heap.size wr cb bb mb pb [pb] smallG l3 1 (fun _ => 0) s5.next ∧ Byts wr A15 (l2.take 120) ∧ Byts wr A23 (l3.take 120) ∧ Below w0.heap.size w0 wr) (fun v25 _ => 120 - (intOf v25).toNat)
              case atStart => exact ⟨0, Nat.zero_le _, rfl, hR14, hby14, hby23, hb140⟩
              case round =>
                clear hR14 hby14 hby23 hb140
                obtain ⟨j, hj, rfl, hR, hbyg, hbya, hbel⟩ := hrel
                by_cases hlt : j < 120
                · have hj15 : j < (l2.take 120).length := by rw [HTL.out]; exact hlt
                  have hj23 : j < (l3.take 120).length := by rw [HTL2.out]; exact hlt
                  obtain ⟨b15, o15, rfl, hc15i⟩ := hbyg.at hj15
                  obtain ⟨b23, o23, rfl, hc23i⟩ := hbya.at hj23
                  have hv : (l3.take 120)[j]'hj23 = (l2.take 120)[j]'hj15 ||| m := by
                    have h1 := HOG.out j hlt
                    rw [if_pos (by omega)] at h1
                    have h2 : (l3.take 120)[j]? = some ((l3.take 120)[j]'hj23) := List.getElem?_eq_getElem hj23
                    rw [List.getElem?_take_of_lt hlt, h1] at h2
                    rw [← Option.some.inj h2, List.getElem_take]
                  rw [hv] at hc23i
                  have hor := or_u8 ((l2.take 120)[j]'hj15) m
                  generalize ((l2.take 120)[j]'hj15 ||| m) = zz at *
                  generalize (l2.take 120)[j]'hj15 = gv at *
                  have q0 : (0 : Int) ≤ (j : Int) := by omega
                  have HH := Lib.hid (And.intro hR (And.intro hbyg (And.intro hbya hbel)))
                  clear hv hR hbyg hbya hbel hj15 hj23
                  go_upto_region 42 with fail
                  go_quiet (fail)
                  clear hc15i hc23i hor q0
                  go_wp2_with fail
                  go_roundw
                  case rel => exact ⟨j + 1, by omega, by go_num, HH.out.1.drewN nq, HH.out.2.1.drewN nq, HH.out.2.2.1.drewN nq, below_drewN HH.out.2.2.2 nq⟩
                  case measure => simp [intOf]; omega
                · obtain rfl : j = 120 := by omega
                  have HER := Lib.hid (nor_erases hR.c 0 (by decide) : Calls Try.prog 22 #[.pointer (some ⟨cb, 0, none⟩), .int .i64 0] wr fun e w' => e = .returned (.int .i64 0) ∧ wr = w')
                  go_wp2_with (go_at_call 22; refine HER.out.mono ?_; rintro e w' ⟨rfl, rfl⟩)
                  go_ret
                  exact ⟨rfl, hbel⟩
end Go.Proofs.Ytcdgpioljilgeaa
