/- The walk of the law FrameJoins. -/
import Derived.Test.YtcdgpioljilgeaaLawFrame
import Derived.Test.YtcdgpioljilgeaaReads
set_option linter.unusedVariables false
set_option maxRecDepth 100000
set_option linter.unusedSimpArgs false
namespace Go.Proofs.Ytcdgpioljilgeaa
open Go.RowKit

/-- A slice of slices of bytes that came in. -/
theorem rowsB_of {w : World} {cs : List Value} (h : Rd Try.prog w 65 cs) : ∃ A c, ∃ xs : List (List UInt8), cs = [.slice A xs.length c] ∧ (xs.length ≤ c ∧ c ≤ maxLen) ∧ Rows w A xs := by
  obtain ⟨A, len, cap, rfl, h1, h2, _, h3⟩ := h.slice Try.underlying65 (sz := 1) (by kernel_rfl) (by omega)
  rcases h3 with rfl | ⟨b, off, rfl, hel⟩
  · exact ⟨A, cap, [], rfl, ⟨h1, h2⟩, fun i hi => by simp at hi⟩
  · have hx : ∀ i, i < len → ∃ x : List UInt8, ∃ B' c', w.cell? ⟨b, off + i, none⟩ = some (.slice B' x.length c') ∧ Byts w B' x := fun i hi => by
      obtain ⟨cs', hl, hc, hr⟩ := hel i hi
      obtain ⟨B', c', x, rfl, _, hy⟩ := hr.byts Try.underlying24 Try.underlying5 (by kernel_rfl)
      exact ⟨x, B', c', by have := hc 0 _ rfl; simpa using this, hy⟩
    classical
    let f : Nat → List UInt8 := fun i => if hi : i < len then Classical.choose (hx i hi) else []
    have hf : ∀ i, (hi : i < len) → f i = Classical.choose (hx i hi) := fun i hi => dif_pos hi
    refine ⟨some ⟨b, off, none⟩, cap, (List.range len).map f, by simp, by simpa using ⟨h1, h2⟩, fun i hi => ?_⟩
    have hi' : i < len := by simpa using hi
    obtain ⟨B', c', hc, hy⟩ := Classical.choose_spec (hx i hi')
    refine ⟨b, off, B', c', rfl, ?_, ?_⟩
    · simpa [hf i hi'] using hc
    · simpa [hf i hi'] using hy

set_option maxHeartbeats 1000000 in
theorem law07_record (A : Option Addr) (n c : Nat) (b : List UInt8) (w : World) (hb : Byts w A b) (hn : b.length = n) (hl : n ≤ 65000) :
    Calls Try.prog 50 #[.slice A n c] w fun e w' => ∃ A' c', e = .returned (.slice A' (n + 7) c') ∧ (n + 7 ≤ c' ∧ c' ≤ maxLen) ∧ Own w' w.heap.size (.slice A' (n + 7) c') (recL b) ∧ Byts w' A' (recL b) ∧ (∀ y, A' = some y → w.heap.size ≤ y.block) ∧ Below w.heap.size w w' := by
  obtain ⟨w0, rfl⟩ : ∃ w0 : World, w0 = w := ⟨_, rfl⟩
  have hbl := bodyL_length b
  rw [hn] at hbl
  have hrl := recL_length b
  rw [hn] at hrl
  have HBL := Lib.hid hbl
  have HRL := Lib.hid hrl
  have HN := Lib.hid hn
  clear hbl hrl hn
  go_enter Try.func50, Try.ntmps50
  go_upto_region 2 with (go_at_call 44; refine (frame_body _ n _ b _ hb HN.out hl).mono ?_; rintro e w1 ⟨A1, c1, rfl, hc1, hown1, -, -, hb1⟩)
  have hs1 := hb1.size
  have o2 := byts_cells' w1 [0] (0, 0)
  have hownA := hown1.alloc (.cells #[.int .u8 0] 5)
  have hzA : w0.heap.size ≤ (w1.alloc (.cells #[.int .u8 0] 5)).heap.size := by rw [World.size_alloc]; omega
  have hla : (bodyL b).length + [(0 : UInt8)].length ≤ 140737488355328 := by rw [HBL.out]; simp; omega
  go_wp2_with (at_builtin; refine wpList_wanted (by rfl) fun K hK => wp_append_byts _ _ rfl rfl rfl hownA o2 rfl hla hzA ?_; intro v2 w2 hown2 hg2 hv2; refine hK _ _ ?_; clear hK K)
  obtain ⟨A2, c2, rfl, hc2, hy2, hA2⟩ := hown2.byts
  rw [show bodyL b ++ [0] = recL b from rfl] at hown2 hy2 hc2 ⊢
  rw [HRL.out] at hc2 hown2 ⊢
  go_ret
  exact ⟨A2, c2, rfl, hc2, hown2, hy2, fun y e => (hA2 y e).1, (hb1.alloc hs1 _).grown hg2 hzA (fun k e => (hownA.lt e).1)⟩

/-! ### FrameJoins -/

theorem own_cells (w : World) (l : List UInt8) (B : Nat) (hB : B ≤ w.heap.size) (hl : l.length ≤ 1000) : Own (w.alloc (.cells (l.map fun x => Value.int .u8 (x.toNat : Int)).toArray 5 (0, 0))) B (.slice (some ⟨w.heap.size, 0, none⟩) l.length l.length) l := by
  unfold Own
  refine ⟨by simp [cellsB], Or.inr ⟨w.heap.size, l.length, _, rfl, hB, heap_alloc_new w _, Nat.le_refl _, by unfold maxLen; omega, by simp, ?_⟩⟩
  have : (l.map fun x => Value.int .u8 (x.toNat : Int)).toArray.toList = cellsB l := by unfold cellsB; simp
  rw [this]
  apply List.take_of_length_le
  simp [cellsB]

/-- Whole records alone. -/
theorem recsF_flat (xs : List (List UInt8)) (h : ∀ x ∈ xs, x.length ≤ 65000) : recsF ((xs.map recL).flatten) = xs ∧ endF (recsF ((xs.map recL).flatten)) = ((xs.map recL).flatten).length ∧ cleanF ((xs.map recL).flatten) = true := by
  have h1 := recsF_all xs [] h
  rw [List.append_nil] at h1
  have h2 : recsF ([] : List UInt8) = [] := rfl
  rw [h2, List.append_nil] at h1
  refine ⟨h1, by rw [h1, endF_flat], ?_⟩
  unfold cleanF
  rw [h1, ← endF_flat, List.drop_length]
  rfl
theorem recsF_junk (j : UInt8) (X : List UInt8) : recsF ([255, 255, j] ++ X) = [] := by
  apply recsF_none
  unfold nextF
  have : num (([255, 255, j] ++ X).take 2) = 65535 := rfl
  rw [this, if_neg (by omega)]

/-- What a scan of whole records says, in numbers. -/
theorem recsF_flat' (xs : List (List UInt8)) (X : List UInt8) (hX : X = (xs.map recL).flatten) (h : ∀ x ∈ xs, x.length ≤ 150) : recsF X = xs ∧ endF (recsF X) = X.length ∧ cleanF X = true := by
  subst hX
  exact recsF_flat xs (fun x hx => by have := h x hx; omega)

set_option maxHeartbeats 16000000 in
theorem frameJoins_walk {w : World} (A : Option Addr) (c : Nat) (a : List (List UInt8)) (hcap : a.length ≤ c ∧ c ≤ maxLen) (ha : Rows w A a)
    (A' : Option Addr) (c' : Nat) (b : List (List UInt8)) (hcap' : b.length ≤ c' ∧ c' ≤ maxLen) (hb : Rows w A' b) (j0 : Int) (wj : (Lit.int .u8 j0).wf = true) :
    Calls Try.prog 10 #[.slice A a.length c, .slice A' b.length c', .int .u8 j0] w fun e w' => e = .returned (.bool true) ∧ Below w.heap.size w w' := by
  obtain ⟨w0, rfl⟩ : ∃ w0 : World, w0 = w := ⟨_, rfl⟩
  have hs0 : w0.heap.size ≤ w0.heap.size := Nat.le_refl _
  obtain ⟨jk, rfl⟩ := byte_of (wf_u8 wj)
  clear wj
  unfold maxLen at hcap hcap'
  go_enter Try.func10, Try.ntmps10
  go_upto_region 3 with fail
  go_loopw [7, 9] (fun v7 v9 wr => ∃ (i : Nat) (X : List UInt8), i ≤ a.length ∧ i ≤ 8 ∧ v9 = .int .i64 (i : Int) ∧ Hid (X = ((a.take i).map recL).flatten) ∧ X.length ≤ 157 * i ∧ Hid (∀ y ∈ a.take i, y.length ≤ 150) ∧ Own wr w0.heap.size v7 X ∧ Below w0.heap.size w0 wr) (fun _ v9 _ => 8 - (intOf v9).toNat)
  case atStart => exact ⟨0, [], Nat.zero_le _, Nat.zero_le _, rfl, rfl, Nat.zero_le _, (fun y hy => by simp at hy), Own.nil _ _, Below.refl _ _⟩
  case round =>
    obtain ⟨i, X, hia, hi8, rfl, HX, hXl, HA, hown, hbel⟩ := hrel
    obtain ⟨A7, c7, rfl, hc7, hy7, hA7⟩ := hown.byts
    go_upto_region 3 with fail
    go_cut [30] (fun v30 w' => v30 = .bool (decide (i < a.length ∧ i < 8)) ∧ w' = wr)
    case first =>
      by_cases g1 : i < a.length
      · have g1i : (i : Int) < (a.length : Int) := by omega
        by_cases g2 : i < 8
        · have g2i : (i : Int) < 8 := by omega
          have E := Lib.hid (show decide (i < a.length ∧ i < 8) = true from decide_eq_true ⟨g1, g2⟩)
          go_wp2_with fail
          go_meet
          exact ⟨by rw [E.out], rfl⟩
        · have g2i : ¬ (i : Int) < 8 := by omega
          have E := Lib.hid (show decide (i < a.length ∧ i < 8) = false from decide_eq_false (by omega))
          go_wp2_with fail
          go_meet
          exact ⟨by rw [E.out], rfl⟩
      · have g1i : ¬ (i : Int) < (a.length : Int) := by omega
        have E := Lib.hid (show decide (i < a.length ∧ i < 8) = false from decide_eq_false (by omega))
        go_wp2_with fail
        go_meet
        exact ⟨by rw [E.out], rfl⟩
    case rest =>
    obtain ⟨rfl, hw'⟩ := hcut
    subst hw'
    by_cases hgo : i < a.length ∧ i < 8
    · rw [decide_eq_true hgo]
      obtain ⟨h1, h2⟩ := hgo
      obtain ⟨g, o, B1, cB, rfl, hcell, hyb⟩ := (ha.below hbel) i h1
      have hsn : a.take (i + 1) = a.take i ++ [a[i]] := by rw [List.take_succ_eq_append_getElem h1]
      have HSN := Lib.hid hsn
      clear hsn
      generalize a[i] = y at *
      obtain ⟨m, hm⟩ : ∃ m, y.length = m := ⟨_, rfl⟩
      rw [hm] at hcell
      have HM := Lib.hid hm
      clear hm
      by_cases h150 : 150 < m
      · go_wp2_with (go_at_call 43; refine (awake07 _).mono ?_; rintro e w2 ⟨rfl, hb2⟩)
        go_ret
        exact ⟨rfl, hbel.trans (hb2.mono (hbel).size)⟩
      · have hs1 := hbel.size
        have hX2 := Lib.hid (show X ++ recL y = ((a.take (i + 1)).map recL).flatten by rw [HSN.out, HX.out]; simp)
        have HA2 := Lib.hid (show ∀ z ∈ a.take (i + 1), z.length ≤ 150 from fun z hz => by
          rw [HSN.out, List.mem_append] at hz
          rcases hz with hz | hz
          · exact HA.out z hz
          · simp at hz; rw [hz, HM.out]; omega)
        have hrl : (recL y).length = m + 7 := by rw [recL_length, HM.out]
        have HRL := Lib.hid hrl
        clear hrl
        go_upto_region 4 with (first
          | (go_at_call 50; refine (law07_record _ m _ y _ hyb HM.out (by omega)).mono ?_; rintro e w1 ⟨A1, c1, rfl, hc1, -, hy1, -, hb1⟩; have hown1 := hown.below hb1)
          | (at_builtin; refine wpList_wanted (by rfl) fun K hK => wp_append_byts _ _ rfl rfl rfl hown1 hy1 HRL.out.symm (by rw [HRL.out]; omega) (Nat.le_trans hs1 hb1.size) ?_; intro v2 w2 hown2 hg2 hv2; refine hK _ _ ?_; clear hK K))
        have hbel2 := (hbel.trans (hb1.mono hs1)).grown hg2 (Nat.le_trans hs1 hb1.size) (fun k e => (hown1.lt e).1)
        clear hown hown1 hb1 hg2 hy7 hy1 hyb hcell hv2
        go_wp2_with fail
        go_roundw
        case rel => exact ⟨i + 1, X ++ recL y, by omega, by omega, by go_num, hX2.out, by rw [List.length_append, HRL.out]; omega, HA2.out, hown2, hbel2⟩
        case measure => simp [intOf]; omega
    · rw [decide_eq_false hgo]
      have hi : (i : Int) = if (a.length : Int) < 8 then (a.length : Int) else 8 := by split <;> omega
      have hal : (a.take i).length = i := by rw [List.length_take]; omega
      have HP := Lib.hid (And.intro (recsF_flat' _ X HX.out HA.out) (And.intro hal (And.intro HX.out HA.out)))
      have HI := Lib.hid hi
      have hXl' : X.length ≤ 1256 := by omega
      clear hgo hi hal HX HA ha hXl hown hA7
      generalize a.take i = a8 at *
      obtain ⟨nx, hnx⟩ : ∃ nx, X.length = nx := ⟨_, rfl⟩
      rw [hnx] at hc7 hXl' HP ⊢
      have HNX := Lib.hid hnx
      clear hnx
      generalize a.length = la at *
      have hbz := hb.below hbel
      have hbz0 := hbel
      clear hb hbel
      obtain ⟨wz, rfl⟩ : ∃ wz, wz = wc := ⟨_, rfl⟩
      obtain ⟨ka, rfl⟩ : ∃ ka, ka = i := ⟨_, rfl⟩
      obtain ⟨XA, rfl⟩ : ∃ XA, XA = X := ⟨_, rfl⟩
      go_upto_region 9 with fail
      go_loopw [8, 10] (fun v8 v10 wr => ∃ (i : Nat) (X : List UInt8), i ≤ b.length ∧ i ≤ 8 ∧ v10 = .int .i64 (i : Int) ∧ Hid (X = ((b.take i).map recL).flatten) ∧ X.length ≤ 157 * i ∧ Hid (∀ y ∈ b.take i, y.length ≤ 150) ∧ Own wr wz.heap.size v8 X ∧ Below wz.heap.size wz wr) (fun _ v10 _ => 8 - (intOf v10).toNat)
      case atStart => exact ⟨0, [], Nat.zero_le _, Nat.zero_le _, rfl, rfl, Nat.zero_le _, (fun y hy => by simp at hy), Own.nil _ _, Below.refl _ _⟩
      case round =>
        obtain ⟨i, X, hia, hi8, rfl, HX, hXl, HA, hown, hbel⟩ := hrel
        obtain ⟨A8, c8, rfl, hc8, hy8, hA8⟩ := hown.byts
        go_upto_region 9 with fail
        go_cut [54] (fun v54 w' => v54 = .bool (decide (i < b.length ∧ i < 8)) ∧ w' = wr)
        case first =>
          by_cases g1 : i < b.length
          · have g1i : (i : Int) < (b.length : Int) := by omega
            by_cases g2 : i < 8
            · have g2i : (i : Int) < 8 := by omega
              have E := Lib.hid (show decide (i < b.length ∧ i < 8) = true from decide_eq_true ⟨g1, g2⟩)
              go_wp2_with fail
              go_meet
              exact ⟨by rw [E.out], rfl⟩
            · have g2i : ¬ (i : Int) < 8 := by omega
              have E := Lib.hid (show decide (i < b.length ∧ i < 8) = false from decide_eq_false (by omega))
              go_wp2_with fail
              go_meet
              exact ⟨by rw [E.out], rfl⟩
          · have g1i : ¬ (i : Int) < (b.length : Int) := by omega
            have E := Lib.hid (show decide (i < b.length ∧ i < 8) = false from decide_eq_false (by omega))
            go_wp2_with fail
            go_meet
            exact ⟨by rw [E.out], rfl⟩
        case rest =>
        obtain ⟨rfl, hw'⟩ := hcut
        subst hw'
        by_cases hgo : i < b.length ∧ i < 8
        · rw [decide_eq_true hgo]
          obtain ⟨h1, h2⟩ := hgo
          obtain ⟨g, o, B1, cB, rfl, hcell, hyb⟩ := (hbz.below hbel) i h1
          have hsn : b.take (i + 1) = b.take i ++ [b[i]] := by rw [List.take_succ_eq_append_getElem h1]
          have HSN := Lib.hid hsn
          clear hsn
          generalize b[i] = y at *
          obtain ⟨m, hm⟩ : ∃ m, y.length = m := ⟨_, rfl⟩
          rw [hm] at hcell
          have HM := Lib.hid hm
          clear hm
          by_cases h150 : 150 < m
          · go_wp2_with (go_at_call 43; refine (awake07 _).mono ?_; rintro e w2 ⟨rfl, hb2⟩)
            go_ret
            exact ⟨rfl, hbz0.trans ((hbel.trans (hb2.mono hbel.size)).mono hbz0.size)⟩
          · have hs1 := hbel.size
            have hX2 := Lib.hid (show X ++ recL y = ((b.take (i + 1)).map recL).flatten by rw [HSN.out, HX.out]; simp)
            have HA2 := Lib.hid (show ∀ z ∈ b.take (i + 1), z.length ≤ 150 from fun z hz => by
              rw [HSN.out, List.mem_append] at hz
              rcases hz with hz | hz
              · exact HA.out z hz
              · simp at hz; rw [hz, HM.out]; omega)
            have hrl : (recL y).length = m + 7 := by rw [recL_length, HM.out]
            have HRL := Lib.hid hrl
            clear hrl
            go_upto_region 10 with (first
              | (go_at_call 50; refine (law07_record _ m _ y _ hyb HM.out (by omega)).mono ?_; rintro e w1 ⟨A1, c1, rfl, hc1, -, hy1, -, hb1⟩; have hown1 := hown.below hb1)
              | (at_builtin; refine wpList_wanted (by rfl) fun K hK => wp_append_byts _ _ rfl rfl rfl hown1 hy1 HRL.out.symm (by rw [HRL.out]; omega) (Nat.le_trans hs1 hb1.size) ?_; intro v2 w2 hown2 hg2 hv2; refine hK _ _ ?_; clear hK K))
            have hbel2 := (hbel.trans (hb1.mono hs1)).grown hg2 (Nat.le_trans hs1 hb1.size) (fun k e => (hown1.lt e).1)
            clear hown hown1 hb1 hg2 hy8 hy1 hyb hcell hv2
            go_wp2_with fail
            go_roundw
            case rel => exact ⟨i + 1, X ++ recL y, by omega, by omega, by go_num, hX2.out, by rw [List.length_append, HRL.out]; omega, HA2.out, hown2, hbel2⟩
            case measure => simp [intOf]; omega
        · rw [decide_eq_false hgo]
          have hbl8 : (b.take i).length = i := by rw [List.length_take]; omega
          have hXl2 : X.length ≤ 1256 := by omega
          have HJ := Lib.hid (show (XA ++ X = ((a8 ++ b.take i).map recL).flatten) ∧ (∀ y ∈ a8 ++ b.take i, y.length ≤ 150) from ⟨by rw [HP.out.2.2.1, HX.out]; simp, fun y hy => by
            rcases List.mem_append.1 hy with h | h
            · exact HP.out.2.2.2 y h
            · exact HA.out y h⟩)
          have HQ := Lib.hid (And.intro (recsF_flat' _ X HX.out HA.out) (And.intro hbl8 (recsF_flat' _ (XA ++ X) HJ.out.1 HJ.out.2)))
          clear hgo hbl8 HX HA HJ hbz hXl hown hA8
          generalize b.take i = b8 at *
          obtain ⟨ny, hny⟩ : ∃ ny, X.length = ny := ⟨_, rfl⟩
          rw [hny] at hc8 hXl2 HQ ⊢
          have HNY := Lib.hid hny
          have HL3 := Lib.hid (show (XA ++ X).length = nx + ny by rw [List.length_append, HNX.out, hny])
          have HL4 := Lib.hid (show (a8 ++ b8).length = ka + i by rw [List.length_append, HP.out.2.1, HQ.out.2.1])
          clear hny
          generalize b.length = lb at *
          have h7 := hy7.below hbel
          have hb0 := hbz0.trans (hbel.mono hbz0.size)
          clear hy7 hbel hbz0
          obtain ⟨w2, rfl⟩ : ∃ w2, w2 = wc := ⟨_, rfl⟩
          unfold maxLen at hc7 hc8
          clear hcap hcap' hs0
          go_upto_region 15 with (go_at_call 46; refine (frame_scan _ nx c7 XA _ h7 HNX.out hc7.1 (by unfold maxLen; omega) (by omega)).mono ?_; rintro e w3 ⟨A11, c11, rfl, hc11, hr11, hA11, hb3⟩; rw [HP.out.1.2.1, HP.out.1.2.2])
          rw [HP.out.1.1] at hr11 hc11 ⊢
          rw [HP.out.2.1] at hc11 ⊢
          have hb30 := hb0.trans (hb3.mono hb0.size)
          have h73 := h7.below hb3
          have h83 := hy8.below hb3
          clear h7 hy8 hb0 hb3 hA11
          go_upto_region 16 with (go_at_call 46; refine (frame_scan _ ny c8 X _ h83 HNY.out hc8.1 (by unfold maxLen; omega) (by omega)).mono ?_; rintro e w4 ⟨A14, c14, rfl, hc14, hr14, hA14, hb4⟩; rw [HQ.out.1.2.1, HQ.out.1.2.2])
          rw [HQ.out.1.1] at hr14 hc14 ⊢
          rw [HQ.out.2.1] at hc14 ⊢
          have hb40 := hb30.trans (hb4.mono hb30.size)
          have h74 := h73.below hb4
          have h84 := h83.below hb4
          have hr114 := hr11.below hb4
          clear h73 h83 hb30 hb4 hr11 hA14
          have hs4 := hb40.size
          have z4 := Nat.le_refl w4.heap.size
          go_upto_region 17 with (first
            | (at_builtin; refine wpList_wanted (by rfl) fun K hK => wp_clone_byts _ rfl rfl h74 HNX.out.symm (by rw [HNX.out]; omega) z4 ?_; intro v5 w5 hown5 hb5 hz5; have h85 := h84.below hb5; refine hK _ _ ?_; clear hK K)
            | (at_builtin; refine wpList_wanted (by rfl) fun K hK => wp_append_byts _ _ rfl rfl rfl hown5 h85 HNY.out.symm (by rw [HNX.out, HNY.out]; omega) hb5.size ?_; intro v6 w6 hown6 hg6 hv6; refine hK _ _ ?_; clear hK K; obtain ⟨A6, c6, rfl, hc6, hy6, -⟩ := hown6.byts; rw [HL3.out] at hc6 ⊢; have hb64 := hb5.grown hg6 hb5.size (fun k e => (hown5.lt e).1))
            | (go_at_call 46; refine (frame_scan A6 (nx + ny) c6 (XA ++ X) _ hy6 HL3.out hc6.1 hc6.2 (by omega)).mono ?_; rintro e w7 ⟨A17, c17, rfl, hc17, hr17, -, hb7⟩; rw [HQ.out.2.2.2.1, HQ.out.2.2.2.2, HL3.out]))
          rw [HQ.out.2.2.1] at hr17 hc17 ⊢
          rw [HL4.out] at hc17 ⊢
          have hb74 := hb64.trans (hb7.mono hb64.size)
          have hb70 := hb40.trans (hb74.mono hs4)
          have h77 := h74.below hb74
          have hr117 := hr114.below hb74
          have hr147 := hr14.below hb74
          have hs7 := hb70.size
          have z7 := Nat.le_refl w7.heap.size
          clear h74 h84 h85 hr114 hr14 hb40 hb5 hown5 hz5 hown6 hg6 hv6 hc6 hy6 hb64 hb7 hb74 hs4 z4
          have hown8 : Own (w7.alloc (.cells #[.int .u8 255, .int .u8 255, .int .u8 (jk.toNat : Int)] 5)) w7.heap.size (.slice (some ⟨w7.heap.size, 0, none⟩) 3 3) [255, 255, jk] := own_cells w7 [255, 255, jk] _ z7 (by simp)
          have h78 := h77.alloc (.cells #[.int .u8 255, .int .u8 255, .int .u8 (jk.toNat : Int)] 5)
          have hb80 := hb70.alloc hs7 (.cells #[.int .u8 255, .int .u8 255, .int .u8 (jk.toNat : Int)] 5)
          have hz8 : w7.heap.size ≤ (w7.alloc (.cells #[.int .u8 255, .int .u8 255, .int .u8 (jk.toNat : Int)] 5)).heap.size := by rw [World.size_alloc]; omega
          have HL9 := Lib.hid (show ([255, 255, jk] ++ XA).length = nx + 3 by rw [List.length_append, HNX.out]; simp; omega)
          have HR9 := Lib.hid (recsF_junk jk XA)
          have hlen9 : ([255, 255, jk] : List UInt8).length + XA.length ≤ 140737488355328 := by rw [HNX.out]; simp; omega
          clear h77
          go_upto_region 18 with (first
            | (at_builtin; refine wpList_wanted (by rfl) fun K hK => wp_append_byts _ _ rfl rfl rfl hown8 h78 HNX.out.symm hlen9 hz8 ?_; intro v9 w9 hown9 hg9 hv9; have hb97 := (below_alloc w7 (.cells #[.int .u8 255, .int .u8 255, .int .u8 (jk.toNat : Int)] 5)).grown hg9 hz8 (fun k e => (hown8.lt e).1); refine hK _ _ ?_; clear hK K; obtain ⟨A9, c9, rfl, hc9, hy9, -⟩ := hown9.byts; rw [HL9.out] at hc9 ⊢)
            | (go_at_call 46; refine (frame_scan A9 (nx + 3) c9 ([255, 255, jk] ++ XA) _ hy9 HL9.out hc9.1 hc9.2 (by omega)).mono ?_; rintro e w10 ⟨A20, c20, rfl, hc20, -, -, hb10⟩; rw [HR9.out, show endF [] = 0 from rfl, show ([] : List (List UInt8)).length = 0 from rfl]))
          have hb107 := hb97.trans (hb10.mono hb97.size)
          have hr1110 := hr117.below hb107
          have hr1410 := hr147.below hb107
          have hr1710 := hr17.below hb107
          have hb100 := hb70.trans (hb107.mono hs7)
          have hs10 := hb100.size
          clear hr117 hr147 hr17 hb107 hb97 hb10 hb70 hb80 hown8 h78 hz8 hown9 hg9 hv9 hc9 hy9 hs7 z7
          have hab1 : a8.length + 0 ≤ 1000000000 := by have := HP.out.2.1; omega
          have hab2 : a8.length + b8.length ≤ 1000000000 := by have := HP.out.2.1; have := HQ.out.2.1; omega
          have HAB := Lib.hid (decide_eq_true (rfl : a8 ++ b8 = a8 ++ b8))
          have hmin : ((ka : Int) == min (la : Int) 8) = true := by have h := HI.out; rw [show (ka : Int) = min (la : Int) 8 from by omega]; simp
          have q1 : ((nx : Int) == (nx : Int)) = true := by simp
          have q2 : ((ny : Int) == (ny : Int)) = true := by simp
          generalize cleanF (255 :: 255 :: jk :: XA) = cz
          go_wp2_with (first
            | (go_at_call 43; refine (awake07 _).mono ?_; rintro e w11 ⟨rfl, hb11⟩; have hr1111 := hr1110.below hb11; have hr1411 := hr1410.below hb11; have hr1711 := hr1710.below hb11; have hb110 := hb100.trans (hb11.mono hs10); have z11 := Nat.le_refl w11.heap.size)
            | (at_builtin; refine wpList_wanted (by rfl) fun K hK => wp_append_rows _ _ rfl rfl rfl (OwnRows.nil _ _) hr1111 HP.out.2.1.symm (fun g h => by cases h) (by simp; omega) z11 ?_; intro v12 w12 hown12 hg12 hv12; have hb12 := (Below.refl w11.heap.size w11).grown hg12 z11 (fun k e => by cases e); refine hK _ _ ?_; clear hK K)
            | (at_builtin; refine wpList_wanted (by rfl) fun K hK => wp_append_rows _ _ rfl rfl rfl hown12 (hr1411.below hb12) HQ.out.2.1.symm (fun g h => ⟨w11, hr1411, (hown12.lt h).1, hb12⟩) hab2 hb12.size ?_; intro v13 w13 hown13 hg13 hv13; refine hK _ _ ?_; clear hK K; rw [List.nil_append] at hown13; have hb13 := hb12.grown hg13 hb12.size (fun k e => (hown12.lt e).1); obtain ⟨A13, c13, rfl, hc13, hr1313, -⟩ := hown13.form; rw [HL4.out] at hc13 ⊢; have hr1713 := hr1711.below hb13; have hb130 := hb110.trans (hb13.mono hb110.size))
            | (go_at_call 48; refine (same_rows A17 (ka + i) c17 (a8 ++ b8) A13 (ka + i) c13 (a8 ++ b8) _ hr1713 HL4.out hr1313 HL4.out (by omega) (by omega)).mono ?_; rintro e w14 ⟨rfl, m14, rfl⟩; rw [decide_eq_true (rfl : a8 ++ b8 = a8 ++ b8)]))
          go_ret
          exact ⟨rfl, below_drewN hb130 _⟩
end Go.Proofs.Ytcdgpioljilgeaa
