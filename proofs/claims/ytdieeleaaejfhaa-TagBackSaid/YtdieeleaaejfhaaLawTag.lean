/- The walks of the laws on tags. -/
import Derived.Test.YtdieeleaaejfhaaTagP
import Derived.Test.YtdieeleaaejfhaaHelp
import Derived.Test.YtdieeleaaejfhaaMake
import Derived.RegionTactic
import Derived.BigRegion
set_option linter.unusedVariables false
set_option maxRecDepth 100000
namespace Go.Proofs.Ytdieeleaaejfhaa
open Go.RowKit

theorem tag_read' (A : Option Addr) (n c : Nat) (l : List UInt8) {a b s e : Nat} (w : World) (hx : rdTag l = (a, b, s, e)) (hb : Byts w A l) (hn : n = l.length) (hc : l.length ≤ c) (hl : l.length ≤ 140737488355328) :
    Calls Try.prog 33 #[.slice A n c] w fun z w' => z = .returned (.tuple #[.agg #[.int .i64 (a : Int), .int .i64 (b : Int), .int .u32 (s : Int)], .int .i64 (e : Int)]) ∧ Below w.heap.size w w' := by
  have h := tag_read A n c l w hb hn hc hl
  rw [hx] at h
  exact h
theorem rtag_read' (A : Option Addr) (n c : Nat) (l : List UInt8) {a b s e : Nat} (w : World) (hx : rdTag l = (a, b, s, e)) (hb : Byts w A l) (hn : n = l.length) (hc : l.length ≤ c) (hl : l.length ≤ 140737488355328) :
    Calls Try.prog 34 #[.slice A n c] w fun z w' => z = .returned (.tuple #[.agg #[.int .i64 (a : Int), .int .i64 (b : Int), .int .u32 (s : Int)], .int .i64 (e : Int)]) ∧ Below w.heap.size w w' := by
  have h := ref_readTag A n c l w hb hn hc hl
  rw [hx] at h
  exact h

theorem wth_ok {v : Int} (h0 : 0 ≤ v) (h1 : v < 2147483648) : wth v = true := by unfold wth; simp; omega
theorem wrBytes_ok {a b : Nat} (s : Nat) (ha : a < 2147483648) (hb : b < 2147483648) : wrBytes (a : Int) (b : Int) s = tagAll a b s ∧ wrErr (a : Int) (b : Int) = 0 := by
  unfold wrBytes wrErr
  rw [wth_ok (by omega) (by omega), wth_ok (by omega) (by omega)]
  exact ⟨rfl, rfl⟩

/-- Writing a tag that may be. -/
theorem tag_write_ok (a b s : Nat) (w : World) (ha : a < 2147483648) (hb : b < 2147483648) (hs : s < 4294967296) :
    Calls Try.prog 31 #[.agg #[.int .i64 (a : Int), .int .i64 (b : Int), .int .u32 (s : Int)]] w fun e w' => ∃ A c L, e = .returned (.tuple #[.slice A 16 c, .int .i64 0]) ∧ Hid (L = tagAll a b s) ∧ (16 ≤ c ∧ c ≤ maxLen) ∧ Own w' w.heap.size (.slice A 16 c) L ∧ Byts w' A L ∧ L.length ≤ 16 ∧ 16 ≤ L.length ∧ Below w.heap.size w w' := by
  refine (tag_write (a : Int) (b : Int) s w (by omega) (by omega) (by omega) (by omega) hs).mono ?_
  rintro e w' ⟨v, rfl, hown, hbel⟩
  rw [(wrBytes_ok s ha hb).1] at hown
  rw [(wrBytes_ok s ha hb).2]
  have hl := tagAll_length a b s
  obtain ⟨A, c, rfl, hc, hr, -⟩ := hown.byts
  rw [hl] at hc hown ⊢
  exact ⟨A, c, _, rfl, rfl, hc, hown, hr, by omega, by omega, hbel⟩

set_option maxHeartbeats 2000000 in
theorem awake06 (w : World) : Calls Try.prog 30 #[] w fun e w' => e = .returned (.bool true) ∧ Below w.heap.size w w' := by
  obtain ⟨w0, rfl⟩ : ∃ w0 : World, w0 = w := ⟨_, rfl⟩
  obtain ⟨s5, hs5⟩ : ∃ s, sumN [5] = s := ⟨_, rfl⟩
  have hsv : s5 = 393222 := by rw [← hs5]; decide
  have e1 : ((s5 : Int) == 393222) = true := by rw [hsv]; rfl
  have hs32 : s5 < 4294967296 := by rw [hsv]; decide
  have HS5 := Lib.hid hs5
  clear hsv hs5
  have hb5 : Byts (w0.alloc (.cells #[.int .u8 5] 5)) (some ⟨w0.heap.size, 0, none⟩) [5] := byts_one w0 5
  have H1 := Lib.hid (tag_of 3 4 _ 1 1 [5] _ hb5 rfl (by decide))
  have hbel0 := below_alloc w0 (.cells #[.int .u8 5] 5)
  have hs0 := hbel0.size
  clear hb5
  go_enter Try.func30, Try.ntmps30
  go_upto_region 2 with (first
    | (go_at_call 35; refine H1.out.mono ?_; rintro e w1 ⟨rfl, hb1⟩; rw [HS5.out])
    | (go_at_call 31; refine (tag_write_ok 3 4 s5 _ (by decide) (by decide) hs32).mono ?_; rintro e w2 ⟨A2, c2, L, rfl, HL, hc2, -, hr2, l1, l2, hb2⟩))
  have hb20 := (hbel0.trans (hb1.mono hs0)).trans (hb2.mono (by have := hb1.size; omega))
  have hrd : rdTag L = (3, 4, s5, 0) := by rw [HL.out]; exact rd_tagAll 3 4 s5 (by decide) (by decide) hs32
  have H2 := Lib.hid (tag_read' A2 16 c2 L w2 hrd hr2 (by omega) (by omega) (by omega))
  clear hb1 hb2 hbel0 hs0 hrd hr2
  go_wp2_with (go_at_call 33; refine H2.out.mono ?_; rintro e w3 ⟨rfl, hb3⟩)
  go_ret
  exact ⟨rfl, (hb20.trans (hb3.mono hb20.size)).alloc (Nat.le_trans hb20.size hb3.size) _⟩

set_option maxHeartbeats 4000000 in
theorem tagBounds_walk {w : World} (no : Int) (wno : (Lit.int .i64 no).wf = true) (ix : Int) (wix : (Lit.int .i64 ix).wf = true)
    (A : Option Addr) (c : Nat) (l : List UInt8) (hcap : l.length ≤ c ∧ c ≤ maxLen) (hb : Byts w A l) (hl : l.length ≤ 140737488351232) :
    Calls Try.prog 8 #[.int .i64 no, .int .i64 ix, .slice A l.length c] w fun e w' => e = .returned (.bool true) ∧ Below w.heap.size w w' := by
  obtain ⟨w0, rfl⟩ : ∃ w0 : World, w0 = w := ⟨_, rfl⟩
  have bn := wf_i64 wno
  have bi := wf_i64 wix
  clear wno wix
  by_cases h1 : 100 < l.length
  · go_enter Try.func8, Try.ntmps8
    go_wp2_with (go_at_call 30; refine (awake06 _).mono ?_; rintro e w' ⟨rfl, hbel⟩)
    go_ret
    exact ⟨rfl, hbel⟩
  have hcl := hcap.1
  have hll : l.length ≤ 140737488355328 := by omega
  have H1 := Lib.hid (tag_write no ix 0 w0 bn.1 bn.2 bi.1 bi.2 (by decide))
  obtain ⟨ea, eb, es, ee, hrd⟩ : ∃ a b s e, rdTag l = (a, b, s, e) := ⟨_, _, _, _, rfl⟩
  have HE : Hid (l.length ≠ 16 → ee = 3) := fun h => by
    unfold rdTag at hrd
    rw [if_pos h] at hrd
    simp at hrd
    exact hrd.2.2.2.symm
  have H2 := Lib.hid (fun w hb => tag_read' A l.length c l w hrd hb rfl hcl hll)
  clear hrd
  obtain ⟨er, her⟩ : ∃ er, wrErr no ix = er := ⟨_, rfl⟩
  have HER := Lib.hid her
  have hq : ∃ m : Bool, (er == 0) = m ∧ (er == 1) = !m ∧ (m = true ↔ (0 ≤ no ∧ no < 2147483648 ∧ 0 ≤ ix ∧ ix < 2147483648)) := by
    refine ⟨wth no && wth ix, ?_⟩
    rw [← her]
    unfold wrErr wth
    by_cases a1 : 0 ≤ no <;> by_cases a2 : no < 2147483648 <;> by_cases a3 : 0 ≤ ix <;> by_cases a4 : ix < 2147483648 <;> simp [a1, a2, a3, a4]
  obtain ⟨m, q1, q2, q3⟩ := hq
  have Q3 := Lib.hid q3
  clear her q3
  go_enter Try.func8, Try.ntmps8
  go_upto_region 4 with (go_at_call 31; go_must (refine H1.out.mono ?_); rintro e w1 ⟨v1, rfl, -, hb1⟩; rw [HER.out])
  go_cut [9] (fun v9 w' => v9 = .bool m ∧ w' = w1)
  case first =>
    cases m with
    | true =>
      obtain ⟨a1, a2, a3, a4⟩ := Q3.out.1 rfl
      go_wp2_with fail
      go_meet
      exact ⟨by simp, rfl⟩
    | false =>
      have hno : ¬ (0 ≤ no ∧ no < 2147483648 ∧ 0 ≤ ix ∧ ix < 2147483648) := fun h => by have := Q3.out.2 h; cases this
      by_cases a1 : 0 ≤ no
      · by_cases a2 : no < 2147483648
        · by_cases a3 : 0 ≤ ix
          · have a4 : ¬ ix < 2147483648 := fun h => hno ⟨a1, a2, a3, h⟩
            clear hno
            go_wp2_with fail
            go_meet
            exact ⟨by simp, rfl⟩
          · clear hno
            go_wp2_with fail
            go_meet
            exact ⟨by simp, rfl⟩
        · clear hno
          go_wp2_with fail
          go_meet
          exact ⟨by simp, rfl⟩
      · clear hno
        go_wp2_with fail
        go_meet
        exact ⟨by simp, rfl⟩
  case rest =>
    obtain ⟨rfl, rfl⟩ := hcut
    have hb' := hb.below hb1
    go_upto_region 6 with (go_at_call 33; go_must (refine (H2.out _ hb').mono ?_); rintro e w2 ⟨rfl, hb2⟩)
    have hbel2 := (hb1.trans (hb2.mono hb1.size)).alloc (Nat.le_trans hb1.size hb2.size) (.cells #[.int .i64 (ea : Int), .int .i64 (eb : Int), .int .u32 (es : Int)] 46)
    clear hb1 hb2 hb'
    generalize w2.alloc (.cells #[.int .i64 (ea : Int), .int .i64 (eb : Int), .int .u32 (es : Int)] 46) = w3 at *
    by_cases h16 : l.length = 16
    · have e16 : ((l.length : Int) == 16) = true := by simp [h16]
      clear h16
      cases m <;>
      · go_wp2_with (go_at_call 30; refine (awake06 _).mono ?_; rintro e w4 ⟨rfl, hb4⟩)
        go_ret
        exact ⟨by simp, hbel2.trans (hb4.mono hbel2.size)⟩
    · have e16 : ((l.length : Int) == 16) = false := by simp; omega
      have hee := HE.out h16
      have e3 : ((ee : Int) == 3) = true := by simp [hee]
      clear h16 hee
      cases m <;>
      · go_wp2_with (go_at_call 30; refine (awake06 _).mono ?_; rintro e w4 ⟨rfl, hb4⟩)
        go_ret
        exact ⟨by simp, hbel2.trans (hb4.mono hbel2.size)⟩

set_option maxHeartbeats 4000000 in
theorem tagTells_walk {w : World} (no : Int) (wno : (Lit.int .i64 no).wf = true) (ix : Int) (wix : (Lit.int .i64 ix).wf = true)
    (A : Option Addr) (c : Nat) (l : List UInt8) (hcap : l.length ≤ c ∧ c ≤ maxLen) (hb : Byts w A l) (hl : l.length ≤ 140737488351232)
    (x : Int) (wx : (Lit.int .i64 x).wf = true) (y : Int) (wy : (Lit.int .i64 y).wf = true) (s : Int) (ws : (Lit.int .u32 s).wf = true)
    (A' : Option Addr) (c' : Nat) (l' : List UInt8) (hcap' : l'.length ≤ c' ∧ c' ≤ maxLen) (hb' : Byts w A' l') (hl' : l'.length ≤ 140737488351232) :
    Calls Try.prog 6 #[.int .i64 no, .int .i64 ix, .slice A l.length c, .agg #[.int .i64 x, .int .i64 y, .int .u32 s], .slice A' l'.length c'] w fun e w' => e = .returned (.bool true) ∧ Below w.heap.size w w' := by
  obtain ⟨w0, rfl⟩ : ∃ w0 : World, w0 = w := ⟨_, rfl⟩
  have bx := wf_i64 wx
  have bY := wf_i64 wy
  have bs : 0 ≤ s ∧ s < 4294967296 := by simp [Lit.wf, IntKind.min, IntKind.max, IntKind.signed, IntKind.bits] at ws; omega
  obtain ⟨s, rfl⟩ := Int.eq_ofNat_of_zero_le bs.1
  have hs : s < 4294967296 := by omega
  clear wno wix wx wy ws bs
  have hbx := Blk.new w0 [.int .i64 x, .int .i64 y, .int .u32 (s : Int)] 46
  have hbel := below_alloc w0 (.cells [.int .i64 x, .int .i64 y, .int .u32 (s : Int)].toArray 46 (0, 0))
  by_cases h1 : 500 < l.length
  · go_enter Try.func6, Try.ntmps6
    go_wp2_with (go_at_call 30; refine (awake06 _).mono ?_; rintro e w' ⟨rfl, hb2⟩)
    go_ret
    exact ⟨rfl, hbel.trans (hb2.mono hbel.size)⟩
  by_cases h2 : 100 < l'.length
  · go_enter Try.func6, Try.ntmps6
    go_wp2_with (go_at_call 30; refine (awake06 _).mono ?_; rintro e w' ⟨rfl, hb2⟩)
    go_ret
    exact ⟨rfl, hbel.trans (hb2.mono hbel.size)⟩
  have hcl := hcap'.1
  have hll : l'.length ≤ 140737488355328 := by omega
  have hlm : l.length ≤ maxLen := by unfold maxLen; omega
  have hr := hb.below hbel
  have hr' := hb'.below hbel
  obtain ⟨ea, eb, es, ee, hrd⟩ : ∃ a b s e, rdTag l' = (a, b, s, e) := ⟨_, _, _, _, rfl⟩
  have HR1 := Lib.hid (fun w hb => tag_read' A' l'.length c' l' w hrd hb rfl hcl hll)
  have HR2 := Lib.hid (fun w hb => rtag_read' A' l'.length c' l' w hrd hb rfl hcl hll)
  have HW1 := Lib.hid (fun w => tag_write x y s w bx.1 bx.2 bY.1 bY.2 hs)
  have HW2 := Lib.hid (fun w => rtag_write x y s w bx.1 bx.2 bY.1 bY.2 hs)
  obtain ⟨er, her⟩ : ∃ er, wrErr x y = er := ⟨_, rfl⟩
  have HER := Lib.hid her
  obtain ⟨X, hX⟩ : ∃ X, wrBytes x y s = X := ⟨_, rfl⟩
  have HX := Lib.hid hX
  clear hrd her hX hcap hb hb'
  go_enter Try.func6, Try.ntmps6
  go_upto_region 3 with fail
  generalize w0.alloc (.cells [.int .i64 x, .int .i64 y, .int .u32 (s : Int)].toArray 46 (0, 0)) = w1 at *
  have c0 := hbx.cell 0 _ rfl
  have c1 := hbx.cell 1 _ rfl
  have c2 := hbx.cell 2 _ rfl
  go_upto_region 4 with (go_at_call 31; go_must (refine (HW1.out _).mono ?_); rintro e w2 ⟨v2, rfl, hown2, hb2⟩; rw [HER.out])
  rw [HX.out] at hown2
  have hbx2 := hbx.only (Only.of_below hb2 []) (by simp)
  have hbel2 := hbel.trans (hb2.mono hbel.size)
  have hr2 := hr.below hb2
  have hr2' := hr'.below hb2
  clear hr hr' hbx hbel hb2 c0 c1 c2
  have c0 := hbx2.cell 0 _ rfl
  have c1 := hbx2.cell 1 _ rfl
  have c2 := hbx2.cell 2 _ rfl
  go_upto_region 5 with (go_at_call 32; go_must (refine (HW2.out _).mono ?_); rintro e w3 ⟨v3, rfl, hown3, hb3⟩; rw [HER.out])
  rw [HX.out] at hown3
  have hbel3 := hbel2.trans (hb3.mono hbel2.size)
  have hr3 := hr2.below hb3
  have hr3' := hr2'.below hb3
  have hx3 := hown2.below hb3
  clear hr2 hr2' hbx2 hbel2 hb3 c0 c1 c2 hown2
  go_upto_region 6 with (go_at_call 33; go_must (refine (HR1.out _ hr3').mono ?_); rintro e w4 ⟨rfl, hb4⟩)
  have hb4' := hb4.alloc hb4.size (.cells [.int .i64 (ea : Int), .int .i64 (eb : Int), .int .u32 (es : Int)].toArray 46 (0, 0))
  have hk4 := Blk.new w4 [.int .i64 (ea : Int), .int .i64 (eb : Int), .int .u32 (es : Int)] 46
  generalize w4.alloc (.cells [.int .i64 (ea : Int), .int .i64 (eb : Int), .int .u32 (es : Int)].toArray 46 (0, 0)) = w5 at *
  have hbel5 := hbel3.trans (hb4'.mono hbel3.size)
  have hr5 := hr3.below hb4'
  have hr5' := hr3'.below hb4'
  have hx5 := hx3.below hb4'
  have hy5 := hown3.below hb4'
  clear hr3 hr3' hx3 hown3 hbel3 hb4 hb4'
  generalize w4.heap.size = k4 at *
  go_upto_region 7 with (go_at_call 34; go_must (refine (HR2.out _ hr5').mono ?_); rintro e w6 ⟨rfl, hb6⟩)
  have hb6' := hb6.alloc hb6.size (.cells [.int .i64 (ea : Int), .int .i64 (eb : Int), .int .u32 (es : Int)].toArray 46 (0, 0))
  have hk6 := Blk.new w6 [.int .i64 (ea : Int), .int .i64 (eb : Int), .int .u32 (es : Int)] 46
  generalize w6.alloc (.cells [.int .i64 (ea : Int), .int .i64 (eb : Int), .int .u32 (es : Int)].toArray 46 (0, 0)) = w7 at *
  have hbel7 := hbel5.trans (hb6'.mono hbel5.size)
  have hr7 := hr5.below hb6'
  have hx7 := hx5.below hb6'
  have hy7 := hy5.below hb6'
  have hk7 := hk4.only (Only.of_below hb6' []) (by simp)
  clear hr5 hr5' hx5 hy5 hbel5 hb6 hb6' hk4
  generalize w6.heap.size = k6 at *
  obtain ⟨A2, c2, rfl, -, hrx, -⟩ := hx7.byts
  obtain ⟨A3, c3, rfl, -, hry, -⟩ := hy7.byts
  have hm := sumN_lt l
  have H1 := Lib.hid (fun w hb => tag_of no ix A l.length c l w hb rfl hlm)
  have H2 := Lib.hid (fun w hb => rtag_of no ix A l.length c l w hb rfl hlm)
  clear hx7 hy7
  generalize sumN l = sm at *
  have hxx : (X == X) = true := by simp
  go_wp2_with (first
    | (go_at_call 30; refine (awake06 _).mono ?_; rintro e w8 ⟨rfl, hb8⟩; have hr8 := hr7.below hb8; have hrx8 := hrx.below hb8; have hry8 := hry.below hb8; have hk8 := hk7.only (Only.of_below hb8 []) (by simp); have hj8 := hk6.only (Only.of_below hb8 []) (by simp); have hbel8 := hbel7.trans (hb8.mono hbel7.size))
    | (go_at_call 35; refine (H1.out _ hr8).mono ?_; rintro e w9 ⟨rfl, hb9⟩; have hr9 := hr8.below hb9; have hrx9 := hrx8.below hb9; have hry9 := hry8.below hb9; have hk9 := hk8.only (Only.of_below hb9 []) (by simp); have hj9 := hj8.only (Only.of_below hb9 []) (by simp); have hbel9 := hbel8.trans (hb9.mono hbel8.size))
    | (go_at_call 36; refine (H2.out _ hr9).mono ?_; rintro e wa ⟨rfl, hba⟩; have hrxa := hrx9.below hba; have hrya := hry9.below hba; have hka := hk9.only (Only.of_below hba []) (by simp); have hja := hj9.only (Only.of_below hba []) (by simp); have hbela := hbel9.trans (hba.mono hbel9.size); have d0 := hka.cell 0 _ rfl; have d1 := hka.cell 1 _ rfl; have d2 := hka.cell 2 _ rfl; have e0 := hja.cell 0 _ rfl; have e1 := hja.cell 1 _ rfl; have e2 := hja.cell 2 _ rfl)
    | (go_at_call 37; refine (help_bytes _ _ _ _ _ _ _ _ _ hrxa rfl hrya rfl).mono ?_; rintro e w' ⟨rfl, rfl⟩))
  go_ret
  exact ⟨by simp, hbela⟩

/-- The low bits of a number. -/
theorem low_bits (x : Int) : ∃ k : Nat, bits .and .i64 x 2147483647 = (k : Int) ∧ k < 2147483648 := by
  have e : (BitVec.ofInt 64 2147483647).toNat = 2147483647 := by decide
  have h : ((BitVec.ofInt 64 x) &&& (BitVec.ofInt 64 2147483647)).toNat ≤ 2147483647 := by
    rw [BitVec.toNat_and, e]; exact Nat.and_le_right
  refine ⟨((BitVec.ofInt 64 x) &&& (BitVec.ofInt 64 2147483647)).toNat, ?_, by omega⟩
  show IntKind.i64.wrap (((BitVec.ofInt 64 x) &&& (BitVec.ofInt 64 2147483647)).toNat : Int) = _
  rw [IntKind.wrap_i64]
  omega

set_option maxHeartbeats 4000000 in
theorem tagEach_walk {w : World} (x : Int) (wx : (Lit.int .i64 x).wf = true) (y : Int) (wy : (Lit.int .i64 y).wf = true) (s : Int) (ws : (Lit.int .u32 s).wf = true)
    (x' : Int) (wx' : (Lit.int .i64 x').wf = true) (y' : Int) (wy' : (Lit.int .i64 y').wf = true) (s' : Int) (ws' : (Lit.int .u32 s').wf = true) :
    Calls Try.prog 9 #[.agg #[.int .i64 x, .int .i64 y, .int .u32 s], .agg #[.int .i64 x', .int .i64 y', .int .u32 s']] w fun e w' => e = .returned (.bool true) ∧ Below w.heap.size w w' := by
  obtain ⟨w0, rfl⟩ : ∃ w0 : World, w0 = w := ⟨_, rfl⟩
  have bs : 0 ≤ s ∧ s < 4294967296 := by simp [Lit.wf, IntKind.min, IntKind.max, IntKind.signed, IntKind.bits] at ws; omega
  have bs' : 0 ≤ s' ∧ s' < 4294967296 := by simp [Lit.wf, IntKind.min, IntKind.max, IntKind.signed, IntKind.bits] at ws'; omega
  obtain ⟨s, rfl⟩ := Int.eq_ofNat_of_zero_le bs.1
  obtain ⟨s', rfl⟩ := Int.eq_ofNat_of_zero_le bs'.1
  have hs : s < 4294967296 := by omega
  have hs' : s' < 4294967296 := by omega
  clear wx wy ws bs wx' wy' ws' bs'
  obtain ⟨a, ha, hal⟩ := low_bits x
  obtain ⟨b, hb, hbl⟩ := low_bits y
  obtain ⟨a', ha', hal'⟩ := low_bits x'
  obtain ⟨b', hb', hbl'⟩ := low_bits y'
  go_enter Try.func9, Try.ntmps9
  go_upto_region 1 with fail
  have hk0 := (Blk.new w0 [.int .i64 x, .int .i64 y, .int .u32 (s : Int)] 46).alloc (.cells [.int .i64 x', .int .i64 y', .int .u32 (s' : Int)].toArray 46 (0, 0))
  have hk1 := Blk.new (w0.alloc (.cells [.int .i64 x, .int .i64 y, .int .u32 (s : Int)].toArray 46 (0, 0))) [.int .i64 x', .int .i64 y', .int .u32 (s' : Int)] 46
  have hbel := (below_alloc w0 (.cells [.int .i64 x, .int .i64 y, .int .u32 (s : Int)].toArray 46 (0, 0))).alloc (by simp) (.cells [.int .i64 x', .int .i64 y', .int .u32 (s' : Int)].toArray 46 (0, 0))
  have hsz : (w0.alloc (.cells [.int .i64 x, .int .i64 y, .int .u32 (s : Int)].toArray 46 (0, 0))).heap.size = w0.heap.size + 1 := by simp
  rw [hsz] at hk1
  clear hsz
  generalize (w0.alloc (.cells [.int .i64 x, .int .i64 y, .int .u32 (s : Int)].toArray 46 (0, 0))).alloc (.cells [.int .i64 x', .int .i64 y', .int .u32 (s' : Int)].toArray 46 (0, 0)) = w1 at *
  obtain ⟨p, hp⟩ : ∃ p, p = w0.heap.size := ⟨_, rfl⟩
  obtain ⟨q, hq⟩ : ∃ q, q = w0.heap.size + 1 := ⟨_, rfl⟩
  rw [← hp] at hk0
  rw [← hq] at hk1 ⊢
  rw [← hp]
  have hpq : p ≠ q := by omega
  have hqp : ¬ q = p := by omega
  have hp0 : w0.heap.size ≤ p := by omega
  have hq0 : w0.heap.size ≤ q := by omega
  clear hp hq
  have c0 := hk0.cell 0 _ rfl
  have c1 := hk0.cell 1 _ rfl
  have f0 := hk0.frz 0
  have f1 := hk0.frz 1
  have d0 := hk1.cell 0 _ rfl
  have d1 := hk1.cell 1 _ rfl
  have g0 := hk1.frz 0
  have g1 := hk1.frz 1
  go_region
  clear ha hb ha' hb'
  go_upto_region 2 with fail
  have hj0 := ((((hk0.set 0 (.int .i64 (a : Int))).set 1 (.int .i64 (b : Int))).set_other (p := ⟨q, 0, none⟩) hpq (.int .i64 (a' : Int))).set_other (p := ⟨q, 1, none⟩) hpq (.int .i64 (b' : Int))).drew
  have hj1 := ((((hk1.set_other (p := ⟨p, 0, none⟩) (Ne.symm hpq) (.int .i64 (a : Int))).set_other (p := ⟨p, 1, none⟩) (Ne.symm hpq) (.int .i64 (b : Int))).set 0 (.int .i64 (a' : Int))).set 1 (.int .i64 (b' : Int))).drew
  have hbel2 := ((((hbel.setCell (p := ⟨p, 0, none⟩) hp0 (.int .i64 (a : Int))).setCell (p := ⟨p, 1, none⟩) hp0 (.int .i64 (b : Int))).setCell (p := ⟨q, 0, none⟩) hq0 (.int .i64 (a' : Int))).setCell (p := ⟨q, 1, none⟩) hq0 (.int .i64 (b' : Int))).drew
  generalize ((((w1.setCell ⟨p, 0, none⟩ (.int .i64 (a : Int))).setCell ⟨p, 1, none⟩ (.int .i64 (b : Int))).setCell ⟨q, 0, none⟩ (.int .i64 (a' : Int))).setCell ⟨q, 1, none⟩ (.int .i64 (b' : Int))).drew = w2 at *
  clear hk0 hk1 hbel c0 c1 f0 f1 d0 d1 g0 g1
  have c0 := hj0.cell 0 _ rfl
  have c1 := hj0.cell 1 _ rfl
  have c2 := hj0.cell 2 _ rfl
  go_upto_region 3 with (go_at_call 31; go_must (refine (tag_write_ok a b s _ hal hbl hs).mono ?_); rintro e w3 ⟨A3, e3, L3, rfl, HL3, -, -, hr3, l3, m3, hb3⟩)
  clear c0 c1 c2
  have hj03 := hj0.only (Only.of_below hb3 []) (by simp)
  have hj13 := hj1.only (Only.of_below hb3 []) (by simp)
  have hbel3 := hbel2.trans (hb3.mono hbel2.size)
  clear hj0 hj1 hbel2 hb3
  have c0 := hj13.cell 0 _ rfl
  have c1 := hj13.cell 1 _ rfl
  have c2 := hj13.cell 2 _ rfl
  go_upto_region 4 with (go_at_call 31; go_must (refine (tag_write_ok a' b' s' _ hal' hbl' hs').mono ?_); rintro e w4 ⟨A4, e4, L4, rfl, HL4, -, -, hr4, l4, m4, hb4⟩)
  clear c0 c1 c2
  have hj04 := hj03.only (Only.of_below hb4 []) (by simp)
  have hj14 := hj13.only (Only.of_below hb4 []) (by simp)
  have hbel4 := hbel3.trans (hb4.mono hbel3.size)
  have hr34 := hr3.below hb4
  clear hj03 hj13 hbel3 hb4 hr3
  have hl3 : 16 = L3.length := by omega
  have hl4 : 16 = L4.length := by omega
  have HL3l := Lib.hid hl3
  have HL4l := Lib.hid hl4
  clear hl3 hl4
  have c0 := hj04.cell 0 _ rfl
  have c1 := hj04.cell 1 _ rfl
  have c2 := hj04.cell 2 _ rfl
  have d0 := hj14.cell 0 _ rfl
  have d1 := hj14.cell 1 _ rfl
  have d2 := hj14.cell 2 _ rfl
  have hlp := hj04.lt
  have hlq := hj14.lt
  have hC : Below w4.heap.size w4 w4.drew := (Below.refl _ _).drew
  have HEQ := Lib.hid (fun h : L3 = L4 => tagAll_inj (a := a) (b := b) (s := s) (a' := a') (b' := b') (s' := s') (by omega) (by omega) hs (by omega) (by omega) hs' (HL3.out.symm.trans (h.trans HL4.out)))
  by_cases h1 : L3 = L4
  · obtain ⟨rfl, rfl, rfl⟩ := HEQ.out h1
    subst h1
    clear HEQ
    go_region_held3 (fun w' => w'.cell? ⟨p, 0, none⟩ = some (.int .i64 (a : Int)) ∧ w'.cell? ⟨p, 1, none⟩ = some (.int .i64 (b : Int)) ∧ w'.cell? ⟨p, 2, none⟩ = some (.int .u32 (s : Int)) ∧ w'.cell? ⟨q, 0, none⟩ = some (.int .i64 (a : Int)) ∧ w'.cell? ⟨q, 1, none⟩ = some (.int .i64 (b : Int)) ∧ w'.cell? ⟨q, 2, none⟩ = some (.int .u32 (s : Int)) ∧ (convert 43 9 (.slice A3 16 e3)).run Try.prog w' = .ok (.string (strOf L3)) w' ∧ (convert 43 9 (.slice A4 16 e4)).run Try.prog w' = .ok (.string (strOf L3)) w')
      (exact ⟨(hC.cell (p := ⟨p, 0, none⟩) hlp).trans c0, (hC.cell (p := ⟨p, 1, none⟩) hlp).trans c1, (hC.cell (p := ⟨p, 2, none⟩) hlp).trans c2, (hC.cell (p := ⟨q, 0, none⟩) hlq).trans d0, (hC.cell (p := ⟨q, 1, none⟩) hlq).trans d1, (hC.cell (p := ⟨q, 2, none⟩) hlq).trans d2, run_conv_str (hr34.below hC) HL3l.out, run_conv_str (hr4.below hC) HL3l.out⟩)
      ((go_at_call 30; refine (awake06 _).mono ?_; rintro e w5 ⟨rfl, hb5⟩; have hC5 := hC.trans (hb5.mono hC.size); clear hC hb5; have hC := hC5; clear hC5))
    go_wp2_with fail
    go_ret
    exact ⟨by simp, (hbel4.trans (hC.mono hbel4.size))⟩
  have hne : ¬ (a = a' ∧ b = b' ∧ s = s') := fun ⟨x1, x2, x3⟩ => h1 (by rw [HL3.out, HL4.out, x1, x2, x3])
  have Q1 := Lib.hid (show ¬ (strOf L3).toList = (strOf L4).toList by simpa [strOf] using h1)
  clear HEQ h1
  by_cases h2 : a = a'
  · have z1 : ((a : Int) == (a' : Int)) = true := by simp; omega
    by_cases h3 : b = b'
    · have z2 : ((b : Int) == (b' : Int)) = true := by simp; omega
      have z3 : ((s : Int) == (s' : Int)) = false := by simp; omega
      clear hne h2 h3
      go_region_held3 (fun w' => w'.cell? ⟨p, 0, none⟩ = some (.int .i64 (a : Int)) ∧ w'.cell? ⟨p, 1, none⟩ = some (.int .i64 (b : Int)) ∧ w'.cell? ⟨p, 2, none⟩ = some (.int .u32 (s : Int)) ∧ w'.cell? ⟨q, 0, none⟩ = some (.int .i64 (a' : Int)) ∧ w'.cell? ⟨q, 1, none⟩ = some (.int .i64 (b' : Int)) ∧ w'.cell? ⟨q, 2, none⟩ = some (.int .u32 (s' : Int)) ∧ (convert 43 9 (.slice A3 16 e3)).run Try.prog w' = .ok (.string (strOf L3)) w' ∧ (convert 43 9 (.slice A4 16 e4)).run Try.prog w' = .ok (.string (strOf L4)) w')
        (exact ⟨(hC.cell (p := ⟨p, 0, none⟩) hlp).trans c0, (hC.cell (p := ⟨p, 1, none⟩) hlp).trans c1, (hC.cell (p := ⟨p, 2, none⟩) hlp).trans c2, (hC.cell (p := ⟨q, 0, none⟩) hlq).trans d0, (hC.cell (p := ⟨q, 1, none⟩) hlq).trans d1, (hC.cell (p := ⟨q, 2, none⟩) hlq).trans d2, run_conv_str (hr34.below hC) HL3l.out, run_conv_str (hr4.below hC) HL4l.out⟩)
        ((go_at_call 30; refine (awake06 _).mono ?_; rintro e w5 ⟨rfl, hb5⟩; have hC5 := hC.trans (hb5.mono hC.size); clear hC hb5; have hC := hC5; clear hC5))
      go_wp2_with fail
      go_ret
      exact ⟨by simp; exact Q1.out, (hbel4.trans (hC.mono hbel4.size))⟩
    · have z2 : ((b : Int) == (b' : Int)) = false := by simp; omega
      clear hne h2 h3
      go_region_held3 (fun w' => w'.cell? ⟨p, 0, none⟩ = some (.int .i64 (a : Int)) ∧ w'.cell? ⟨p, 1, none⟩ = some (.int .i64 (b : Int)) ∧ w'.cell? ⟨p, 2, none⟩ = some (.int .u32 (s : Int)) ∧ w'.cell? ⟨q, 0, none⟩ = some (.int .i64 (a' : Int)) ∧ w'.cell? ⟨q, 1, none⟩ = some (.int .i64 (b' : Int)) ∧ w'.cell? ⟨q, 2, none⟩ = some (.int .u32 (s' : Int)) ∧ (convert 43 9 (.slice A3 16 e3)).run Try.prog w' = .ok (.string (strOf L3)) w' ∧ (convert 43 9 (.slice A4 16 e4)).run Try.prog w' = .ok (.string (strOf L4)) w')
        (exact ⟨(hC.cell (p := ⟨p, 0, none⟩) hlp).trans c0, (hC.cell (p := ⟨p, 1, none⟩) hlp).trans c1, (hC.cell (p := ⟨p, 2, none⟩) hlp).trans c2, (hC.cell (p := ⟨q, 0, none⟩) hlq).trans d0, (hC.cell (p := ⟨q, 1, none⟩) hlq).trans d1, (hC.cell (p := ⟨q, 2, none⟩) hlq).trans d2, run_conv_str (hr34.below hC) HL3l.out, run_conv_str (hr4.below hC) HL4l.out⟩)
        ((go_at_call 30; refine (awake06 _).mono ?_; rintro e w5 ⟨rfl, hb5⟩; have hC5 := hC.trans (hb5.mono hC.size); clear hC hb5; have hC := hC5; clear hC5))
      go_wp2_with fail
      go_ret
      exact ⟨by simp; exact Q1.out, (hbel4.trans (hC.mono hbel4.size))⟩
  · have z1 : ((a : Int) == (a' : Int)) = false := by simp; omega
    clear hne h2
    go_region_held3 (fun w' => w'.cell? ⟨p, 0, none⟩ = some (.int .i64 (a : Int)) ∧ w'.cell? ⟨p, 1, none⟩ = some (.int .i64 (b : Int)) ∧ w'.cell? ⟨p, 2, none⟩ = some (.int .u32 (s : Int)) ∧ w'.cell? ⟨q, 0, none⟩ = some (.int .i64 (a' : Int)) ∧ w'.cell? ⟨q, 1, none⟩ = some (.int .i64 (b' : Int)) ∧ w'.cell? ⟨q, 2, none⟩ = some (.int .u32 (s' : Int)) ∧ (convert 43 9 (.slice A3 16 e3)).run Try.prog w' = .ok (.string (strOf L3)) w' ∧ (convert 43 9 (.slice A4 16 e4)).run Try.prog w' = .ok (.string (strOf L4)) w')
      (exact ⟨(hC.cell (p := ⟨p, 0, none⟩) hlp).trans c0, (hC.cell (p := ⟨p, 1, none⟩) hlp).trans c1, (hC.cell (p := ⟨p, 2, none⟩) hlp).trans c2, (hC.cell (p := ⟨q, 0, none⟩) hlq).trans d0, (hC.cell (p := ⟨q, 1, none⟩) hlq).trans d1, (hC.cell (p := ⟨q, 2, none⟩) hlq).trans d2, run_conv_str (hr34.below hC) HL3l.out, run_conv_str (hr4.below hC) HL4l.out⟩)
      ((go_at_call 30; refine (awake06 _).mono ?_; rintro e w5 ⟨rfl, hb5⟩; have hC5 := hC.trans (hb5.mono hC.size); clear hC hb5; have hC := hC5; clear hC5))
    go_wp2_with fail
    go_ret
    exact ⟨by simp; exact Q1.out, (hbel4.trans (hC.mono hbel4.size))⟩

end Go.Proofs.Ytdieeleaaejfhaa
