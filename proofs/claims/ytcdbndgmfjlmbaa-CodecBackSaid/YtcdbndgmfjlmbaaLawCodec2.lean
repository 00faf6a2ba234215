/- The walk of CodecTexts, and what stands behind what was put. -/
import Derived.Test.YtcdbndgmfjlmbaaLawCodec
set_option linter.unusedVariables false
namespace Go.Proofs.Ytcdbndgmfjlmbaa
open Go.RowKit

theorem mid_take {α : Type} (p a m : List α) {n : Nat} (hn : a.length = n) : ((p ++ a ++ m).take (p.length + n)).drop p.length = a := by
  subst hn
  rw [← List.length_append, List.take_left, List.drop_left]

theorem getR_put (p m : List UInt8) (u n : Nat) (h1 : 1 ≤ n) (h2 : n ≤ 8) : getR (p ++ low u n ++ m) (p.length : Int) (n : Int) = (u % 2 ^ (8 * n), 0) := by
  rw [getR_ok (by omega) (by simp [low_length])]
  rw [mid_take p (low u n) m (low_length u n), num_low]

theorem getT_put (p m : List UInt8) (s : ByteArray) (hs : s.size < 4294967296) : getT (p ++ low s.size 4 ++ s.data.toList ++ m) (p.length : Int) = (s.data.toList, ((p.length + 4 + s.size : Nat) : Int), 0) := by
  have hss : s.data.toList.length = s.size := by simp
  have hN : num (((p ++ low s.size 4 ++ s.data.toList ++ m).take (p.length + 4)).drop p.length) = s.size := by
    rw [List.append_assoc (p ++ low s.size 4), mid_take p (low s.size 4) _ (low_length _ _), num_low]
    omega
  rw [getT_ok hN (by simp [low_length]; omega)]
  have := mid_take (p ++ low s.size 4) s.data.toList m hss
  rw [List.length_append, low_length] at this
  rw [this]

theorem getT_cut (s : ByteArray) (hs : s.size < 4294967296) (j : Nat) (hj : j < 4 + s.size) : getT ((low s.size 4 ++ s.data.toList).take j) 0 = ([], 0, 3) := by
  have hss : s.data.toList.length = s.size := by simp
  have hll : (low s.size 4 ++ s.data.toList).length = 4 + s.size := by simp [low_length]
  by_cases h4 : j < 4
  · rw [getT, if_neg (by omega), if_pos (by rw [List.length_take]; omega)]
  · have h := getT_short2 (l := (low s.size 4 ++ s.data.toList).take j) (o := 0) (N := s.size) ?_ (by rw [List.length_take]; omega) (by rw [List.length_take]; omega)
    · exact h
    · rw [List.take_take, Nat.min_eq_left (by omega), Nat.zero_add, List.drop_zero]
      have : (low s.size 4 ++ s.data.toList).take 4 = low s.size 4 := by
        have := List.take_left' (l₁ := low s.size 4) (l₂ := s.data.toList) (low_length s.size 4)
        exact this
      rw [this, num_low]
      omega

theorem strOf_data (s : ByteArray) : strOf s.data.toList = s := by
  cases s; rfl

set_option maxRecDepth 100000 in
set_option maxHeartbeats 1000000 in
theorem codecTexts_walk {w : World} (s : ByteArray) (ws : s.size ≤ 140737488351232) (A : Option Addr) (c : Nat) (l : List UInt8) (hcap : l.length ≤ c ∧ c ≤ maxLen) (hb : Byts w A l) (hl : l.length ≤ 140737488351232)
    (cut : Int) (wc : (Lit.int .i64 cut).wf = true) :
    Calls Try.prog 12 #[.string s, .slice A l.length c, .int .i64 cut] w fun e w' => e = .returned (.bool true) ∧ Below w.heap.size w w' := by
  obtain ⟨w0, rfl⟩ : ∃ w0 : World, w0 = w := ⟨_, rfl⟩
  by_cases h1 : (300 : Int) < s.size
  · go_enter Try.func12, Try.ntmps12
    go_wp2_with (go_at_call 35; refine (awake01 _).mono ?_; rintro e w' ⟨rfl, hbel⟩)
    go_ret
    exact ⟨rfl, hbel⟩
  by_cases h2 : (50 : Int) < l.length
  · go_enter Try.func12, Try.ntmps12
    go_wp2_with (go_at_call 35; refine (awake01 _).mono ?_; rintro e w' ⟨rfl, hbel⟩)
    go_ret
    exact ⟨rfl, hbel⟩
  clear hcap
  have hss : s.data.toList.length = s.size := by simp
  have H0 := Lib.hid (codec_putText none 0 0 [] s w0 (Or.inl rfl) rfl (by simp; omega))
  have hbl : (low s.size 4 ++ s.data.toList).length = 4 + s.size := by simp [low_length]
  have T1 := Lib.hid (getT_put [] l s (by omega))
  have TC := Lib.hid (fun j => getT_cut s (by omega) j)
  have hs0 := Nat.le_refl w0.heap.size
  obtain ⟨bl, hbl2⟩ : ∃ bl, low s.size 4 ++ s.data.toList = bl := ⟨_, rfl⟩
  rw [hbl2] at hbl
  have HL := Lib.hid hbl
  have hb4 : ¬ ((bl.length : Int) < 4) := by omega
  have hb3 : bl.length ≤ 304 := by omega
  have hb0 : bl.length ≠ 0 := by omega
  have HBL := Lib.hid hbl2
  obtain ⟨j, hj, hjl⟩ := mod_len cut bl.length (by omega) (by omega)
  have TC : Hid (getT (bl.take j) 0 = ([], 0, 3)) := by
    show _ = _
    rw [← hbl2]; exact getT_cut s (by omega) j (by omega)
  have T1 : Hid (getT (bl ++ l) 0 = (s.data.toList, (bl.length : Int), 0)) := by
    have := getT_put [] l s (by omega)
    rw [List.nil_append, hbl2] at this
    show _ = _
    rw [hbl]
    simpa using this
  clear hbl2 hbl
  go_enter Try.func12, Try.ntmps12
  go_upto_region 4 with (go_at_call 36; go_must (refine H0.out.mono ?_); rintro e w1 ⟨r, rfl, hown, hbel⟩; rw [List.nil_append, HBL.out] at hown; obtain ⟨A1, c1, rfl, ⟨hc1, hc2⟩, hr1, -⟩ := hown.byts)
  have hs1 := hbel.size
  have hlb := hb.below hbel
  clear hown H0
  go_upto_region 5 with (first
    | (go_at_call 37; obtain ⟨A3, c3, rfl, ⟨hc3, -⟩, hr3, -⟩ := hown3.byts; go_must (refine (codec_getText _ _ _ _ _ _ T1.out hr3 rfl hc3 (by simp; omega) (by decide) (by decide)).mono ?_); rintro e w4 ⟨rfl, rfl⟩)
    | (at_builtin; refine wpList_wanted (by rfl) fun K hK => wp_clone_byts _ rfl rfl hr1 rfl (by omega) (Nat.le_refl _) ?_; intro r w2 hown2 hbel2 hown2g; refine hK _ _ ?_; clear hK K)
    | (at_builtin; refine wpList_wanted (by rfl) fun K hK => wp_append_byts _ _ rfl rfl rfl hown2 (hlb.below hbel2) rfl (by omega) hbel2.size ?_; intro r3 w3 hown3 hg3 hown3g; refine hK _ _ ?_; clear hK K))
  have hbel3 : Below w1.heap.size w1 w4 := hbel2.grown hg3 hbel2.size (fun k e => (hown2.lt e).1)
  have hbel4 : Below w0.heap.size w0 w4 := hbel.trans (hbel3.mono hs1)
  have hr4 := hr1.below hbel3
  clear hown3 hg3 hown2 hbel2 hr1 hr3 hown3g hown2g hbel3 hlb
  rw [strOf_data]
  go_upto_region 8 with (first
    | (go_at_call 35; refine (awake01 _).mono ?_; rintro e w5 ⟨rfl, hbel5⟩; have hr5 := hr4.below hbel5)
    | (refine wpList_wanted (by rfl) fun K hK => wp_slice_byts _ _ _ rfl 0 j rfl (Or.inl ⟨rfl, rfl⟩) (Or.inr ⟨_, _, rfl, congrArg (Value.int .i64) hj⟩) (Nat.zero_le _) (by omega) ?_; intro A5 e1 e2 e3; have hm := e1 _ _ hr5 (by omega) hc1; rw [List.drop_zero] at hm; refine hK _ _ ?_; clear e1 e2 e3 hK K; (try simp only [Nat.sub_zero]))
    | (go_at_call 37; go_must (refine (codec_getText _ _ _ _ _ _ TC.out hm (by rw [List.length_take]; omega) (by rw [List.length_take]; omega) (by rw [List.length_take]; omega) (by decide) (by decide)).mono ?_); rintro e w6 ⟨rfl, rfl⟩))
  go_wp2_with fail
  go_ret
  exact ⟨rfl, hbel4.trans (hbel5.mono hbel4.size)⟩
end Go.Proofs.Ytcdbndgmfjlmbaa
