/- The walk of CodecTells. -/
import Derived.Test.YtcdbndgmfjlmbaaLawCodec
set_option linter.unusedVariables false
namespace Go.Proofs.Ytcdbndgmfjlmbaa
open Go.RowKit

/-- What stands while the calls of CodecTells go on. -/
structure CtxCod (w0 : World) (A : Option Addr) (l : List UInt8) (g : Nat) (w : World) : Prop where
  b : Byts w A l
  i : Byts w (some ⟨g, 0, none⟩) (l ++ [71, 71, 71])
  bel : Below w0.heap.size w0 w

theorem CtxCod.below {w0 : World} {A : Option Addr} {l : List UInt8} {g : Nat} {w w' : World} (h : CtxCod w0 A l g w) (hx : Below w.heap.size w w') : CtxCod w0 A l g w' :=
  ⟨h.b.below hx, h.i.below hx, h.bel.trans (hx.mono h.bel.size)⟩
theorem CtxCod.own {w0 : World} {A : Option Addr} {l : List UInt8} {g : Nat} {w : World} (h : CtxCod w0 A l g w) : Byts w (some ⟨g, 0, none⟩) l := by
  have := h.i.take l.length; simpa using this
theorem CtxCod.drewN {w0 : World} {A : Option Addr} {l : List UInt8} {g : Nat} {w : World} (h : CtxCod w0 A l g w) (m : Nat) : CtxCod w0 A l g (w.drewN m) := h.below (below_drewN (Below.refl _ _) m)

theorem wf_u64 {x : Int} (h : (Lit.int .u64 x).wf = true) : 0 ≤ x ∧ x < 18446744073709551616 := by
  simp [Lit.wf, IntKind.min, IntKind.max, IntKind.signed, IntKind.bits] at h; omega

set_option maxRecDepth 100000 in
set_option maxHeartbeats 8000000 in
theorem codecTells_walk {w : World} (A : Option Addr) (c : Nat) (l : List UInt8) (hcap : l.length ≤ c ∧ c ≤ maxLen) (hb : Byts w A l) (hl : l.length ≤ 140737488351232)
    (off : Int) (woff : (Lit.int .i64 off).wf = true) (n : Int) (wn : (Lit.int .i64 n).wf = true) (v : Int) (wv : (Lit.int .u64 v).wf = true) (i : Int) (wi : (Lit.int .i64 i).wf = true) (s : ByteArray) (ws : s.size ≤ 140737488351232) :
    Calls Try.prog 13 #[.slice A l.length c, .int .i64 off, .int .i64 n, .int .u64 v, .int .i64 i, .string s] w fun e w' => e = .returned (.bool true) ∧ Below w.heap.size w w' := by
  obtain ⟨w0, rfl⟩ : ∃ w0 : World, w0 = w := ⟨_, rfl⟩
  have bo := wf_i64 woff
  have bn := wf_i64 wn
  have bv := wf_u64 wv
  clear woff wn wv wi
  obtain ⟨v, rfl⟩ := Int.eq_ofNat_of_zero_le bv.1
  by_cases h1 : (500 : Int) < l.length
  · go_enter Try.func13, Try.ntmps13
    go_wp2_with (go_at_call 35; refine (awake01 _).mono ?_; rintro e w' ⟨rfl, hbel⟩)
    go_ret
    exact ⟨rfl, hbel⟩
  by_cases h2 : (500 : Int) < s.size
  · go_enter Try.func13, Try.ntmps13
    go_wp2_with (go_at_call 35; refine (awake01 _).mono ?_; rintro e w' ⟨rfl, hbel⟩)
    go_ret
    exact ⟨rfl, hbel⟩
  have hll : l.length ≤ 140737488355000 := by omega
  have hl2 : l.length ≤ 140737488355328 := by omega
  have hls : l.length + s.size ≤ 140737488350000 := by omega
  have hc3 : l.length ≤ l.length + 3 := by omega
  have hcl := hcap.1
  obtain ⟨bo1, bo2⟩ := bo
  obtain ⟨bn1, bn2⟩ := bn
  have bv2 : v < 18446744073709551616 := by omega
  have hu := uof_eq i
  have hult := uof_lt i
  obtain ⟨⟨x, e1⟩, hx⟩ : ∃ p, getR l off n = p := ⟨_, rfl⟩
  obtain ⟨⟨y, e3⟩, hy⟩ : ∃ p, getR l off 8 = p := ⟨_, rfl⟩
  obtain ⟨⟨t, z, e2⟩, ht⟩ : ∃ p, getT l off = p := ⟨_, rfl⟩
  have hneg : off < 0 → t = [] ∧ z = 0 ∧ e2 = 1 := by
    intro h0
    rw [getT, if_pos h0] at ht
    cases ht; exact ⟨rfl, rfl, rfl⟩
  have HX := Lib.hid hx
  have HY := Lib.hid hy
  have HT := Lib.hid ht
  have HN := Lib.hid hneg
  clear hx hy ht hneg hcap bv
  obtain ⟨X1, hX1⟩ : ∃ X, l ++ low v (putN n) = X := ⟨_, rfl⟩
  obtain ⟨X2, hX2⟩ : ∃ X, l ++ low (uof i) 8 = X := ⟨_, rfl⟩
  obtain ⟨X3, hX3⟩ : ∃ X, l ++ low s.size 4 ++ s.data.toList = X := ⟨_, rfl⟩
  have HX1 := Lib.hid hX1
  have HX2 := Lib.hid hX2
  have HX3 := Lib.hid hX3
  clear hX1 hX2 hX3
  go_enter Try.func13, Try.ntmps13
  go_upto_region 4 with (go_at_call 20; go_must (refine (own_byte A l.length c l 71 _ hb rfl hl2).mono ?_); rintro e w2 ⟨v2, rfl, g, rfl, hin, hbel2, -⟩; have hC : CtxCod w0 A l g w2 := ⟨hb.below hbel2, hin, hbel2⟩; clear hin hbel2 hb)
  go_upto_region 5 with (go_at_call 34; go_must (refine (codec_get' _ _ _ _ _ _ _ HX.out hC.own rfl hc3 hl2 bo1 bo2 bn1 bn2).mono ?_); rintro e w3 ⟨rfl, rfl⟩)
  go_upto_region 6 with (go_at_call 38; go_must (refine (ref_get' _ _ _ _ _ _ _ HX.out hC.b rfl hl2 bo1 bo2 bn1 bn2).mono ?_); rintro e w4 ⟨rfl, d1, hw⟩; replace hC : CtxCod w0 A l g w4 := (by rw [hw]; exact hC.drewN d1); clear hw)
  go_upto_region 7 with (go_at_call 37; go_must (refine (codec_getText _ _ _ _ _ _ HT.out hC.own rfl hc3 hl2 bo1 bo2).mono ?_); rintro e w5 ⟨rfl, rfl⟩)
  go_upto_region 8 with (go_at_call 39; go_must (refine (ref_getText _ _ c _ _ _ HT.out hC.b rfl hcl hl2 bo1 bo2).mono ?_); rintro e w6 ⟨rfl, d2, hw⟩; replace hC : CtxCod w0 A l g w6 := (by rw [hw]; exact hC.drewN d2); clear hw)
  have hstr : strOf [] = ⟨#[]⟩ := rfl
  go_upto_if 68 with fail
  go_cut [21, 22, 23] (fun v21 v22 v23 w' => v21 = .string (strOf t) ∧ v22 = .int .i64 z ∧ v23 = .int .i64 (e2 : Int) ∧ w' = w6)
  case first =>
    by_cases h0 : off < 0
    · obtain ⟨rfl, rfl, rfl⟩ := HN.out h0
      go_wp2_with fail
      go_meet
      exact ⟨rfl, rfl, rfl, rfl⟩
    · go_wp2_with fail
      go_meet
      exact ⟨rfl, rfl, rfl, rfl⟩
  case rest =>
    obtain ⟨rfl, rfl, rfl, hw⟩ := hcut
    obtain rfl := hw.symm
    clear HN hstr
    go_upto_region 11 with (go_at_call 40; go_must (refine (codec_getInt _ _ _ _ _ _ HY.out hC.own rfl hc3 hl2 bo1 bo2).mono ?_); rintro e w7 ⟨rfl, rfl⟩)
    go_wp2_with (first
      | (go_at_call 38; go_must (refine (ref_get' _ _ _ _ _ _ _ HY.out hC.b rfl hl2 bo1 bo2 (by decide) (by decide)).mono ?_); rintro e w8 ⟨rfl, d3, hw⟩; replace hC : CtxCod w0 A l g w8 := (by rw [hw]; exact hC.drewN d3); clear hw)
      | (go_at_call 35; go_must (refine (awake01 _).mono ?_); rintro e w9 ⟨rfl, hx⟩; replace hC := hC.below hx; clear hx)
      | (go_at_call 33; go_must (refine (codec_put _ _ _ _ _ _ _ hC.own rfl hll bv2 bn1 bn2).mono ?_); rintro e w10 ⟨r1, rfl, hown1, hx⟩; (first | rw [HX1.out] at hown1 | rw [HX2.out] at hown1 | rw [HX3.out] at hown1); replace hC := hC.below hx; obtain ⟨A1, c1, rfl, -, hr1, -⟩ := hown1.byts; clear hown1 hx)
      | (go_at_call 42; go_must (refine (codec_putInt _ _ _ _ _ _ hC.own rfl hll).mono ?_); rintro e w10 ⟨r1, rfl, hown1, hx⟩; (first | rw [HX1.out] at hown1 | rw [HX2.out] at hown1 | rw [HX3.out] at hown1); replace hC := hC.below hx; obtain ⟨A1, c1, rfl, -, hr1, -⟩ := hown1.byts; clear hown1 hx)
      | (go_at_call 36; go_must (refine (codec_putText _ _ _ _ _ _ hC.own rfl hls).mono ?_); rintro e w10 ⟨r1, rfl, hown1, hx⟩; (first | rw [HX1.out] at hown1 | rw [HX2.out] at hown1 | rw [HX3.out] at hown1); replace hC := hC.below hx; obtain ⟨A1, c1, rfl, -, hr1, -⟩ := hown1.byts; clear hown1 hx)
      | (go_at_call 41; go_must (refine (ref_put _ _ _ _ _ _ _ hC.b rfl hll (by omega) (by omega) (by omega)).mono ?_); rintro e w11 ⟨r2, rfl, hown2, hx⟩; (first | rw [HX1.out] at hown2 | rw [putN_8, HX2.out] at hown2 | rw [HX3.out] at hown2); replace hC := hC.below hx; replace hr1 := hr1.below hx; obtain ⟨A2, c2, rfl, -, hr2, -⟩ := hown2.byts; clear hown2 hx)
      | (go_at_call 43; go_must (refine (ref_putText _ _ _ _ _ _ hC.b rfl hls).mono ?_); rintro e w11 ⟨r2, rfl, hown2, hx⟩; (first | rw [HX1.out] at hown2 | rw [putN_8, HX2.out] at hown2 | rw [HX3.out] at hown2); replace hC := hC.below hx; replace hr1 := hr1.below hx; obtain ⟨A2, c2, rfl, -, hr2, -⟩ := hown2.byts; clear hown2 hx)
      | (go_at_call 24; go_must (refine (help_bytes _ _ _ _ _ _ _ _ _ hr1 rfl hr2 rfl).mono ?_); rintro e w12 ⟨rfl, rfl⟩; clear hr1 hr2; (try rw [beq_self_eq_true]))
      | (go_at_call 29; go_must (refine (kept_byte _ _ _ _ _ _ l 71 _ hC.i rfl (by omega) (by omega) hC.b rfl hl2).mono ?_); rintro e w13 ⟨rfl, mm, hw⟩; replace hC : CtxCod w0 A l g w13 := (by rw [hw]; exact hC.drewN mm); clear hw))
    go_ret
    exact ⟨rfl, hC.bel⟩
end Go.Proofs.Ytcdbndgmfjlmbaa
