/- The walk of CodecBack. -/
import Derived.Test.YtcdbndgmfjlmbaaLawCodec2
import Derived.Test.YtcdbndgmfjlmbaaTexts
import Derived.Deep.RegionHeld3
set_option linter.unusedVariables false
namespace Go.Proofs.Ytcdbndgmfjlmbaa
open Go.RowKit

/-- A number and a text, as they are put. -/
def rec1 (z : Int) (s : ByteArray) : List UInt8 := low (uof z) 8 ++ low s.size 4 ++ s.data.toList

/-- The first k of them, one behind the other. -/
def recs (ls : List Int) (ss : List ByteArray) (k : Nat) : List UInt8 := ((ls.zip ss).take k).flatMap fun p => rec1 p.1 p.2

theorem rec1_length (z : Int) (s : ByteArray) : (rec1 z s).length = 12 + s.size := by
  have hss : s.data.toList.length = s.size := by simp
  rw [rec1, List.length_append, List.length_append, low_length, low_length, hss]

theorem recs_succ {ls : List Int} {ss : List ByteArray} {k : Nat} (h1 : k < ls.length) (h2 : k < ss.length) : recs ls ss (k + 1) = recs ls ss k ++ rec1 ls[k] ss[k] := by
  unfold recs
  rw [List.take_succ_eq_append_getElem (by rw [List.length_zip]; omega), List.flatMap_append]
  simp

theorem recs_split {ls : List Int} {ss : List ByteArray} {k n : Nat} (h1 : k < ls.length) (h2 : k < ss.length) (hn : k < n) : ∃ m, recs ls ss n = recs ls ss k ++ rec1 ls[k] ss[k] ++ m := by
  refine ⟨(((ls.zip ss).take n).drop (k + 1)).flatMap fun p => rec1 p.1 p.2, ?_⟩
  rw [← recs_succ h1 h2]
  unfold recs
  rw [← List.flatMap_append]
  congr 1
  have := List.take_append_drop (k + 1) ((ls.zip ss).take n)
  rw [List.take_take, Nat.min_eq_left (by omega)] at this
  exact this.symm

theorem recs_le {ls : List Int} {ss : List ByteArray} {k : Nat} (h1 : k ≤ ls.length) (h2 : k ≤ ss.length) (h : ∀ i, (hi : i < k) → ss[i].size ≤ 100) : (recs ls ss k).length ≤ 112 * k := by
  induction k with
  | zero => simp [recs]
  | succ k ih =>
    rw [recs_succ (by omega) (by omega), List.length_append, rec1_length]
    have := ih (by omega) (by omega) (fun i hi => h i (by omega))
    have := h k (by omega)
    omega

theorem uof_back (z : Int) (h1 : -9223372036854775808 ≤ z) (h2 : z ≤ 9223372036854775807) : wrap64 ((uof z % 2 ^ (8 * 8) : Nat) : Int) = z := by
  have := uof_lt z
  rw [show (2 : Nat) ^ (8 * 8) = 18446744073709551616 from rfl, Nat.mod_eq_of_lt this]
  unfold uof
  rw [IntKind.wrap_u64]
  unfold wrap64
  omega

theorem getR_rec (p m : List UInt8) (z : Int) (s : ByteArray) : getR (p ++ rec1 z s ++ m) (p.length : Int) 8 = (uof z % 2 ^ (8 * 8), 0) := by
  have h := getR_put p (low s.size 4 ++ s.data.toList ++ m) (uof z) 8 (by omega) (by omega)
  have e : p ++ low (uof z) 8 ++ (low s.size 4 ++ s.data.toList ++ m) = p ++ rec1 z s ++ m := by simp [rec1]
  rw [e] at h
  exact h

theorem getT_rec (p m : List UInt8) (z : Int) (s : ByteArray) (hs : s.size < 4294967296) : getT (p ++ rec1 z s ++ m) ((p.length : Int) + 8) = (s.data.toList, (((p ++ rec1 z s).length : Nat) : Int), 0) := by
  have h := getT_put (p ++ low (uof z) 8) m s hs
  have e : p ++ low (uof z) 8 ++ low s.size 4 ++ s.data.toList ++ m = p ++ rec1 z s ++ m := by simp [rec1]
  rw [e] at h
  have e2 : (((p ++ low (uof z) 8).length : Nat) : Int) = (p.length : Int) + 8 := by rw [List.length_append, low_length]; rfl
  have e3 : (p ++ low (uof z) 8).length + 4 + s.size = (p ++ rec1 z s).length := by rw [List.length_append, low_length, List.length_append, rec1_length]; omega
  rw [e2, e3] at h
  exact h

theorem getT_end (l : List UInt8) : getT l (l.length : Int) = ([], 0, 3) := by
  rw [getT, if_neg (by omega), if_pos (by omega)]

theorem Ints.cell {w : World} {b off : Nat} {l : List Int} (h : Ints w (some ⟨b, off, none⟩) l) {k : Nat} (hk : k < l.length) : w.cell? ⟨b, off + k, none⟩ = some (.int .i64 l[k]) := by
  obtain ⟨b', off', e, hc⟩ := h.at hk
  cases e; exact hc
theorem Texts.cell {w : World} {b off : Nat} {l : List ByteArray} (h : Texts w (some ⟨b, off, none⟩) l) {k : Nat} (hk : k < l.length) : w.cell? ⟨b, off + k, none⟩ = some (.string l[k]) := by
  obtain ⟨b', off', e, hc⟩ := h.at hk
  cases e; exact hc

/-- What stands while CodecBack puts. -/
structure CtxBack (w0 : World) (A1 A2 : Option Addr) (ls : List Int) (ss : List ByteArray) (w : World) : Prop where
  z : Ints w A1 ls
  s : Texts w A2 ss
  bel : Below w0.heap.size w0 w

theorem CtxBack.below {w0 : World} {A1 A2 : Option Addr} {ls : List Int} {ss : List ByteArray} {w w' : World} (h : CtxBack w0 A1 A2 ls ss w) (hx : Below w.heap.size w w') : CtxBack w0 A1 A2 ls ss w' :=
  ⟨h.z.below hx, h.s.below hx, h.bel.trans (hx.mono h.bel.size)⟩

set_option maxRecDepth 100000 in
set_option maxHeartbeats 4000000 in
theorem codecBack_walk {w : World} (A : Option Addr) (c : Nat) (l : List UInt8) (hcap : l.length ≤ c ∧ c ≤ maxLen) (hb : Byts w A l) (hl : l.length ≤ 140737488351232)
    (A1 : Option Addr) (c1 : Nat) (ls : List Int) (hcap1 : ls.length ≤ c1 ∧ c1 ≤ maxLen) (hz : Ints w A1 ls) (hw : ∀ x ∈ ls, (Lit.int .i64 x).wf = true) (hl1 : ls.length ≤ 140737488351232)
    (A2 : Option Addr) (c2 : Nat) (ss : List ByteArray) (hcap2 : ss.length ≤ c2 ∧ c2 ≤ maxLen) (hs : Texts w A2 ss) :
    Calls Try.prog 14 #[.slice A l.length c, .slice A1 ls.length c1, .slice A2 ss.length c2] w fun e w' => e = .returned (.bool true) ∧ Below w.heap.size w w' := by
  obtain ⟨w0, rfl⟩ : ∃ w0 : World, w0 = w := ⟨_, rfl⟩
  by_cases h1 : (100 : Int) < l.length
  · go_enter Try.func14, Try.ntmps14
    go_wp2_with (go_at_call 35; refine (awake01 _).mono ?_; rintro e w' ⟨rfl, hbel⟩)
    go_ret
    exact ⟨rfl, hbel⟩
  have hsl : ss.length ≤ maxLen := Nat.le_trans hcap2.1 hcap2.2
  have hml : maxLen ≤ 9223372036854775807 := by decide
  have hs63 : (ss.length : Int) ≤ 9223372036854775807 := by omega
  have hwf : ∀ i, (hi : i < ls.length) → -9223372036854775808 ≤ ls[i] ∧ ls[i] ≤ 9223372036854775807 := fun i hi => wf_i64 (hw _ (List.getElem_mem hi))
  have HWF := Lib.hid hwf
  have hl2 : l.length ≤ 140737488355328 := by omega
  obtain ⟨n, hn⟩ : ∃ n, min (min ls.length ss.length) 20 = n := ⟨_, rfl⟩
  have hn1 : n ≤ ls.length := by omega
  have hn2 : n ≤ ss.length := by omega
  have hn3 : n ≤ 20 := by omega
  have HN := Lib.hid (show ∀ k, k < n ↔ (k < ls.length ∧ k < ss.length ∧ k < 20) from fun k => by omega)
  clear hn hcap hcap1 hcap2 hw hwf hml hsl
  have hs0 := Nat.le_refl w0.heap.size
  have hC0 : CtxBack w0 A1 A2 ls ss w0 := ⟨hz, hs, Below.refl _ _⟩
  clear hz hs
  go_enter Try.func14, Try.ntmps14
  go_upto_region 5 with (at_builtin; refine wpList_wanted (by rfl) fun K hK => wp_clone_byts _ rfl rfl hb rfl hl2 hs0 ?_; intro r w1 hown hbel hown2; have hC := hC0.below hbel; refine hK _ _ ?_; clear hK K)
  go_loopw [7, 8] (fun v7 v8 wr => ∃ k : Nat, k ≤ n ∧ v8 = .int .i64 (k : Int) ∧ Own wr w0.heap.size v7 (l ++ recs ls ss k) ∧ CtxBack w0 A1 A2 ls ss wr ∧ Hid (∀ i, (hi : i < k) → (hj : i < ss.length) → ss[i].size ≤ 100)) (fun _ v8 _ => n - (intOf v8).toNat)
  case atStart => exact ⟨0, Nat.zero_le _, rfl, by simpa [recs] using hown, hC, (fun i hi => by omega)⟩
  case round =>
    clear hown hbel hown2 hC hC0 hb
    obtain ⟨k, hk, rfl, hown, hC, hsz⟩ := hrel
    have hsz2 := hsz
    have hlen : (recs ls ss k).length ≤ 112 * k := recs_le (by omega) (by omega) (fun i hi => hsz.out i hi (by omega))
    go_upto_region 5 with fail
    go_cut [38] (fun v38 w' => v38 = .bool (decide (k < n)) ∧ w' = wr)
    case first =>
      have hk' := HN.out k
      by_cases c1' : k < ls.length
      · have c1i : (k : Int) < (ls.length : Int) := by omega
        by_cases c2' : k < ss.length
        · have c2i : (k : Int) < (ss.length : Int) := by omega
          by_cases c3' : k < 20
          · have c3i : (k : Int) < 20 := by omega
            have e : decide (k < n) = true := by simp [hk', c1', c2', c3']
            have E := Lib.hid e
            clear hk' e
            go_wp2_with fail
            go_meet
            exact ⟨by rw [E.out], rfl⟩
          · have c3i : ¬ (k : Int) < 20 := by omega
            have e : decide (k < n) = false := by simp [hk', c3']
            have E := Lib.hid e
            clear hk' e
            go_wp2_with fail
            go_meet
            exact ⟨by rw [E.out], rfl⟩
        · have c2i : ¬ (k : Int) < (ss.length : Int) := by omega
          have e : decide (k < n) = false := by simp [hk', c2']
          have E := Lib.hid e
          clear hk' e
          go_wp2_with fail
          go_meet
          exact ⟨by rw [E.out], rfl⟩
      · have c1i : ¬ (k : Int) < (ls.length : Int) := by omega
        have e : decide (k < n) = false := by simp [hk', c1']
        have E := Lib.hid e
        clear hk' e
        go_wp2_with fail
        go_meet
        exact ⟨by rw [E.out], rfl⟩
    case rest =>
      obtain ⟨rfl, hw'⟩ := hcut
      obtain rfl := hw'.symm
      by_cases hlt : k < n
      · obtain ⟨b2, o2, rfl, hs2⟩ := hC.s.at (show k < ss.length by omega)
        have hki : (k : Int) < (ss.length : Int) := by omega
        have hkl : (k : Int) < (ls.length : Int) := by omega
        by_cases hbig : (100 : Int) < (ss[k]'(by omega)).size
        · go_wp2_with (go_at_call 35; refine (awake01 _).mono ?_; rintro e w' ⟨rfl, hbel⟩)
          go_ret
          exact ⟨rfl, hC.bel.trans (hbel.mono hC.bel.size)⟩
        · go_upto_region 9 with fail
          have hk1 : k < ls.length := by omega
          have hk2 : k < ss.length := by omega
          obtain ⟨b1, o1, rfl, hz1⟩ := hC.z.at hk1
          have H2 : Hid (l ++ recs ls ss (k + 1) = l ++ recs ls ss k ++ rec1 ls[k] ss[k]) := by show _ = _; rw [recs_succ hk1 hk2, List.append_assoc]
          have hsz' : Hid (∀ i, (hi : i < k + 1) → (hj : i < ss.length) → ss[i].size ≤ 100) := fun i hi hj => by
            by_cases e : i < k
            · exact hsz.out i e hj
            · obtain rfl : i = k := by omega
              omega
          have hX1 : (l ++ recs ls ss k).length ≤ 140737488300000 := by rw [List.length_append]; omega
          clear hlen hsz hsz2 hz1 hs2
          generalize l ++ recs ls ss k = X at *
          obtain ⟨A3, c3, rfl, -, hr3, -⟩ := hown.byts
          have hcz := fun (w' : World) (h : CtxBack w0 (some ⟨b1, o1, none⟩) (some ⟨b2, o2, none⟩) ls ss w') => h.z.cell hk1
          have hcs := fun (w' : World) (h : CtxBack w0 (some ⟨b1, o1, none⟩) (some ⟨b2, o2, none⟩) ls ss w') => h.s.cell hk2
          have HZ := Lib.hid hcz
          have HS := Lib.hid hcs
          clear hcz hcs hown
          generalize ls[k] = z at *
          generalize ss[k] = s at *
          have hXs : X.length ≤ 140737488355000 := by omega
          have hXt : (X ++ low (uof z) 8).length + s.size ≤ 140737488350000 := by rw [List.length_append, low_length]; omega
          obtain ⟨X4, hX4⟩ : ∃ X4, X ++ low (uof z) 8 = X4 := ⟨_, rfl⟩
          rw [hX4] at hXt
          have HX4 := Lib.hid hX4
          clear hX4
          replace hC := hC.below (Below.refl _ _).drew
          replace hr3 := hr3.below (Below.refl _ _).drew
          go_region_held3 (fun w' => w'.cell? ⟨b1, o1 + k, none⟩ = some (.int .i64 z) ∧ w'.cell? ⟨b2, o2 + k, none⟩ = some (.string s))
            (exact ⟨HZ.out _ hC, HS.out _ hC⟩)
            (first
              | (go_at_call 42; refine (codec_putInt _ _ _ _ _ _ hr3 rfl hXs).mono ?_; rintro e w4 ⟨r4, rfl, hown4, hx⟩; rw [HX4.out] at hown4; replace hC := hC.below hx; obtain ⟨A4, c4, rfl, -, hr4, -⟩ := hown4.byts; clear hx hown4)
              | (go_at_call 36; refine (codec_putText _ _ _ _ _ _ hr4 rfl hXt).mono ?_; rintro e w5 ⟨r5, rfl, hown5, hx⟩; have hown6 := hown5.mono hC.bel.size; replace hC := hC.below hx; clear hx hown5))
          go_wp2_with fail
          go_roundw
          case rel => exact ⟨k + 1, by omega, by go_num, by rw [H2.out, rec1, ← List.append_assoc, ← List.append_assoc, HX4.out]; exact hown6, hC, hsz'⟩
          case measure => simp [intOf]; omega
      · obtain rfl : k = n := by omega
        clear hsz hk hs0
        have hX1 : (l ++ recs ls ss k).length ≤ 140737488300000 := by rw [List.length_append]; omega
        obtain ⟨X, hX⟩ : ∃ X, l ++ recs ls ss k = X := ⟨_, rfl⟩
        rw [hX] at hown hX1
        have HX := Lib.hid hX
        clear hX
        obtain ⟨A3, c3, rfl, ⟨hc3, -⟩, hr3, -⟩ := hown.byts
        have hss100 : Hid (∀ i, (hi : i < k) → (hj : i < ss.length) → ss[i].size ≤ 100) := hsz2
        clear hown hlen
        go_upto_region 12 with fail
        go_loopw [9, 10, 11, 12, 13, 14, 15] (fun v9 v10 _ _ _ _ _ w' => ∃ j p : Nat, j ≤ k ∧ v10 = .int .i64 (j : Int) ∧ Hid ((l ++ recs ls ss j).length = p) ∧ v9 = .int .i64 (p : Int) ∧ w' = wr) (fun _ v10 _ _ _ _ _ _ => k - (intOf v10).toNat)
        case atStart => exact ⟨0, l.length, Nat.zero_le _, rfl, (by show _ = _; simp [recs]), rfl, rfl⟩
        case round =>
          obtain ⟨j, p, hj, rfl, hp, rfl, rfl⟩ := hrel
          go_upto_region 12 with fail
          go_cut [74] (fun v74 w' => v74 = .bool (decide (j < k)) ∧ w' = wr)
          case first =>
            have hk' := HN.out j
            by_cases c1' : j < ls.length
            · have c1i : (j : Int) < (ls.length : Int) := by omega
              by_cases c2' : j < ss.length
              · have c2i : (j : Int) < (ss.length : Int) := by omega
                by_cases c3' : j < 20
                · have c3i : (j : Int) < 20 := by omega
                  have e : decide (j < k) = true := by simp [hk', c1', c2', c3']
                  have E := Lib.hid e
                  clear hk' e
                  go_wp2_with fail
                  go_meet
                  exact ⟨by rw [E.out], rfl⟩
                · have c3i : ¬ (j : Int) < 20 := by omega
                  have e : decide (j < k) = false := by simp [hk', c3']
                  have E := Lib.hid e
                  clear hk' e
                  go_wp2_with fail
                  go_meet
                  exact ⟨by rw [E.out], rfl⟩
              · have c2i : ¬ (j : Int) < (ss.length : Int) := by omega
                have e : decide (j < k) = false := by simp [hk', c2']
                have E := Lib.hid e
                clear hk' e
                go_wp2_with fail
                go_meet
                exact ⟨by rw [E.out], rfl⟩
            · have c1i : ¬ (j : Int) < (ls.length : Int) := by omega
              have e : decide (j < k) = false := by simp [hk', c1']
              have E := Lib.hid e
              clear hk' e
              go_wp2_with fail
              go_meet
              exact ⟨by rw [E.out], rfl⟩
          case rest =>
            obtain ⟨rfl, hw'⟩ := hcut
            obtain rfl := hw'.symm
            by_cases hlt : j < k
            · have hk1 : j < ls.length := by omega
              have hk2 : j < ss.length := by omega
              obtain ⟨b1, o1, rfl, hz1⟩ := hC.z.at hk1
              obtain ⟨b2, o2, rfl, hs2⟩ := hC.s.at hk2
              have hki : (j : Int) < (ss.length : Int) := by omega
              have hkl : (j : Int) < (ls.length : Int) := by omega
              have hbig := hss100.out j hlt hk2
              obtain ⟨hz2, hz3⟩ := HWF.out j hk1
              obtain ⟨m, hm⟩ := recs_split hk1 hk2 hlt
              have eX : X = (l ++ recs ls ss j) ++ rec1 ls[j] ss[j] ++ m := by rw [← HX.out, hm]; simp
              have G1 := getR_rec (l ++ recs ls ss j) m ls[j] ss[j]
              have G2 := getT_rec (l ++ recs ls ss j) m ls[j] ss[j] (by omega)
              rw [← eX, hp.out] at G1 G2
              have HB := Lib.hid (uof_back ls[j] hz2 hz3)
              have Hn : Hid ((l ++ recs ls ss (j + 1)).length = (l ++ recs ls ss j ++ rec1 ls[j] ss[j]).length) := by show _ = _; rw [recs_succ hk1 hk2, List.append_assoc]
              have hnext : (l ++ recs ls ss j ++ rec1 ls[j] ss[j]).length ≤ 140737488300000 := by
                have h2 := congrArg List.length eX
                rw [List.length_append (bs := m)] at h2
                omega
              have hp1 : p ≤ 140737488300000 := by
                have h2 := congrArg List.length eX
                rw [List.length_append (bs := m), List.length_append (bs := rec1 ls[j] ss[j]), hp.out] at h2
                omega
              clear eX hm hz2 hz3
              generalize (l ++ recs ls ss j ++ rec1 ls[j] ss[j]).length = p2 at *
              generalize uof ls[j] % 2 ^ (8 * 8) = q at *
              generalize ls[j] = z at *
              generalize ss[j] = s at *
              have H1 := Lib.hid (codec_getInt A3 _ c3 X p wr G1 hr3 rfl hc3 (by omega) (by omega) (by omega))
              have H2 := Lib.hid (codec_getText A3 _ c3 X (p + 8) wr G2 hr3 rfl hc3 (by omega) (by omega) (by omega))
              clear G1 G2
              go_upto_region 15 with (go_at_call 40; go_must (refine H1.out.mono ?_); rintro e w4 ⟨rfl, rfl⟩)
              rw [HB.out]
              go_upto_region 16 with (go_at_call 37; go_must (refine H2.out.mono ?_); rintro e w5 ⟨rfl, rfl⟩)
              rw [strOf_data]
              go_wp2_with fail
              go_roundw
              case rel => exact ⟨j + 1, p2, by omega, by go_num, Hn, by go_num, trivial⟩
              case measure => simp [intOf]; omega
            · obtain rfl : j = k := by omega
              obtain rfl : X.length = p := by rw [← HX.out]; exact hp.out
              have H3 := Lib.hid (codec_getText A3 _ c3 X X.length wr (getT_end X) hr3 rfl hc3 (by omega) (by omega) (by omega))
              go_wp2_with (first
                | (go_at_call 37; go_must (refine H3.out.mono ?_); rintro e w5 ⟨rfl, rfl⟩)
                | (go_at_call 35; refine (awake01 _).mono ?_; rintro e w' ⟨rfl, hbel⟩))
              go_ret
              exact ⟨rfl, hC.bel.trans (hbel.mono hC.bel.size)⟩
end Go.Proofs.Ytcdbndgmfjlmbaa
