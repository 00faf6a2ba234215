/- The contracts of reading a tag: the program's and the reference's. -/
import Derived.Test.YtdieeleaaejfhaaTag
import Derived.Test.YtdieeleaaejfhaaKinds
set_option linter.unusedVariables false
set_option maxRecDepth 100000
namespace Go.Proofs.Ytdieeleaaejfhaa
open Go.RowKit

/-- The number of four bytes from there on. -/
def fld (l : List UInt8) (o : Nat) : Nat := num ((l.take (o + 4)).drop o)
theorem fld_lt (l : List UInt8) (o : Nat) : fld l o < 4294967296 := by
  unfold fld
  have h := num_lt ((l.take (o + 4)).drop o)
  have h2 : ((l.take (o + 4)).drop o).length ≤ 4 := by rw [List.length_drop, List.length_take]; omega
  have h3 : 2 ^ (8 * ((l.take (o + 4)).drop o).length) ≤ 2 ^ 32 := Nat.pow_le_pow_right (by decide) (by omega)
  have : (2 : Nat) ^ 32 = 4294967296 := by decide
  omega
theorem fld_get (l : List UInt8) (o : Nat) (h : o + 4 ≤ l.length) : getR l (o : Int) 4 = (fld l o, 0) := getR_ok (n := 4) (by omega) h

/-- What bytes are as a tag: number, index, sum; and why they are none. -/
def rdTag (l : List UInt8) : Nat × Nat × Nat × Nat :=
  if l.length ≠ 16 then (0, 0, 0, 3)
  else if sumN (l.take 12) ≠ fld l 12 then (0, 0, 0, 4)
  else if 2147483647 < fld l 0 ∨ 2147483647 < fld l 4 then (0, 0, 0, 1)
  else (fld l 0, fld l 4, fld l 8, 0)

/-- The cells of the four numbers, so many of which are read. -/
def four (l : List UInt8) (k : Nat) : List Value := [.int .u64 ((if 0 < k then fld l 0 else 0 : Nat) : Int), .int .u64 ((if 1 < k then fld l 4 else 0 : Nat) : Int), .int .u64 ((if 2 < k then fld l 8 else 0 : Nat) : Int), .int .u64 ((if 3 < k then fld l 12 else 0 : Nat) : Int)]
theorem four_at (l : List UInt8) (k : Nat) (h : k < 4) : (four l k)[k]? = some (.int .u64 0) := by
  have : k = 0 ∨ k = 1 ∨ k = 2 ∨ k = 3 := by omega
  rcases this with rfl | rfl | rfl | rfl <;> rfl
theorem four_set (l : List UInt8) (k : Nat) (h : k < 4) : (four l k).set k (.int .u64 (fld l (4 * k) : Int)) = four l (k + 1) := by
  have : k = 0 ∨ k = 1 ∨ k = 2 ∨ k = 3 := by omega
  rcases this with rfl | rfl | rfl | rfl <;> rfl

def tagOut (x : Nat × Nat × Nat × Nat) : Value := .tuple #[.agg #[.int .i64 (x.1 : Int), .int .i64 (x.2.1 : Int), .int .u32 (x.2.2.1 : Int)], .int .i64 (x.2.2.2 : Int)]

set_option maxHeartbeats 4000000 in
theorem tag_read (A : Option Addr) (n c : Nat) (l : List UInt8) (w : World) (hb : Byts w A l) (hn : n = l.length) (hc : l.length ≤ c) (hl : l.length ≤ 140737488355328) :
    Calls Try.prog 33 #[.slice A n c] w fun e w' => e = .returned (tagOut (rdTag l)) ∧ Below w.heap.size w w' := by
  subst hn
  obtain ⟨w0, rfl⟩ : ∃ w0 : World, w0 = w := ⟨_, rfl⟩
  by_cases h16 : l.length = 16
  · obtain ⟨b, off, rfl, hcl⟩ := hb.at (k := 0) (by omega)
    have hbl : b < w0.heap.size := World.block_lt_of_cell? w0 _ hcl
    clear hcl
    have hlen : l.length ≤ 16 ∧ 16 ≤ l.length := by omega
    obtain ⟨hle, hge⟩ := hlen
    have h16i : ((l.length : Int) != 16) = false := by simp [h16]
    have H16 := Lib.hid h16
    clear h16
    have hb1 := (hb.alloc (.cells #[.int .i64 0, .int .i64 0, .int .u32 0] 46)).alloc (.cells #[.int .u64 0, .int .u64 0, .int .u64 0, .int .u64 0] 93)
    go_enter Try.func33, Try.ntmps33
    go_upto_region 4 with fail
    have hrb := (Blk.new w0 [.int .i64 0, .int .i64 0, .int .u32 0] 46).alloc (.cells #[.int .u64 0, .int .u64 0, .int .u64 0, .int .u64 0] 93)
    have htb : Blk _ _ 93 (four l 0) := Blk.new (w0.alloc (.cells #[.int .i64 0, .int .i64 0, .int .u32 0] 46)) [.int .u64 0, .int .u64 0, .int .u64 0, .int .u64 0] 93
    have hbel : Below w0.heap.size w0 ((w0.alloc (.cells #[.int .i64 0, .int .i64 0, .int .u32 0] 46)).alloc (.cells #[.int .u64 0, .int .u64 0, .int .u64 0, .int .u64 0] 93)) :=
      (below_alloc w0 _).alloc (by simp) _
    have hsz : (w0.alloc (.cells #[.int .i64 0, .int .i64 0, .int .u32 0] 46)).heap.size = w0.heap.size + 1 := by simp
    rw [hsz] at htb
    clear hb hsz
    change Blk ((w0.alloc (.cells #[.int .i64 0, .int .i64 0, .int .u32 0] 46)).alloc (.cells #[.int .u64 0, .int .u64 0, .int .u64 0, .int .u64 0] 93)) _ _ _ at htb
    generalize (w0.alloc (.cells #[.int .i64 0, .int .i64 0, .int .u32 0] 46)).alloc (.cells #[.int .u64 0, .int .u64 0, .int .u64 0, .int .u64 0] 93) = w1 at *
    obtain ⟨rb, hre⟩ : ∃ r, r = w0.heap.size := ⟨_, rfl⟩
    obtain ⟨tb, hte⟩ : ∃ r, r = w0.heap.size + 1 := ⟨_, rfl⟩
    rw [← hte] at htb ⊢
    rw [← hre] at hrb ⊢
    have hrt : rb ≠ tb := by omega
    have hr0 : w0.heap.size ≤ rb := by omega
    have ht0 : w0.heap.size ≤ tb := by omega
    clear hre hte
    have hbt : b ≠ tb := by omega
    go_upto_region 5 with fail
    go_loopw [10] (fun v10 wr => ∃ k : Nat, k ≤ 4 ∧ v10 = .int .i64 (k : Int) ∧ Blk wr tb 93 (four l k) ∧ Blk wr rb 46 [.int .i64 0, .int .i64 0, .int .u32 0] ∧ Byts wr (some ⟨b, off, none⟩) l ∧ Below w0.heap.size w0 wr) (fun v10 _ => 4 - (intOf v10).toNat)
    case atStart => exact ⟨0, by omega, rfl, htb, hrb, hb1, hbel⟩
    case round =>
      clear htb hrb hb1 hbel
      obtain ⟨k, hk, rfl, htb, hrb, hb, hbel⟩ := hrel
      by_cases hlt : k < 4
      · have ck := htb.cell k _ (four_at l k hlt)
        have fk := htb.frz k
        have hx : getR l (4 * (k : Int)) 4 = (fld l (4 * k), 0) := by have := fld_get l (4 * k) (by omega); rwa [Int.natCast_mul] at this
        have hset := htb.set k (.int .u64 (fld l (4 * k) : Int))
        rw [four_set l k hlt] at hset
        have HS := Lib.hid hset
        have HR := Lib.hid (hrb.set_other (p := ⟨tb, k, none⟩) hrt (.int .u64 (fld l (4 * k) : Int)))
        have HB := Lib.hid (hbel.setCell (p := ⟨tb, k, none⟩) ht0 (.int .u64 (fld l (4 * k) : Int)))
        have HY := Lib.hid (hb.far ⟨tb, k, none⟩ (.int .u64 (fld l (4 * k) : Int)) (fun x e => by cases e; exact hbt))
        have H := Lib.hid (codec_get' (some ⟨b, off, none⟩) l.length c l (4 * (k : Int)) 4 wr hx hb rfl hc hl (by omega) (by omega) (by decide) (by decide))
        clear hset hx htb hrb hb hbel
        generalize fld l (4 * k) = g at *
        go_wp2_with (go_at_call 57; refine H.out.mono ?_; rintro e w' ⟨rfl, rfl⟩)
        go_roundw
        case rel => exact ⟨k + 1, by omega, by go_num, HS.out, HR.out, HY.out, HB.out⟩
        case measure => simp [intOf]; omega
      · obtain rfl : k = 4 := by omega
        have htb4 : Blk wr tb 93 [.int .u64 (fld l 0 : Int), .int .u64 (fld l 4 : Int), .int .u64 (fld l 8 : Int), .int .u64 (fld l 12 : Int)] := htb
        have t0 := htb4.cell 0 _ rfl
        have t1 := htb4.cell 1 _ rfl
        have t2 := htb4.cell 2 _ rfl
        have t3 := htb4.cell 3 _ rfl
        have r0 := hrb.cell 0 _ rfl
        have r1 := hrb.cell 1 _ rfl
        have r2 := hrb.cell 2 _ rfl
        have q0 := hrb.frz 0
        have q1 := hrb.frz 1
        have q2 := hrb.frz 2
        have HY := Lib.hid (fun m => (hb.take 12).drewN (w := wr) m)
        have hl12 : 12 = (l.take 12).length := by rw [List.length_take]; omega
        have HL12 := Lib.hid hl12
        have hm12 : (l.take 12).length ≤ maxLen := by unfold maxLen; rw [List.length_take]; omega
        have hc0 : ¬ c = 0 := by omega
        have hc12 : 12 ≤ c := by omega
        have hg0 := fld_lt l 0
        have hg1 := fld_lt l 4
        have hg2 := fld_lt l 8
        have hg3 := fld_lt l 12
        have HRD : Hid (rdTag l = if sumN (l.take 12) ≠ fld l 12 then (0, 0, 0, 4) else if 2147483647 < fld l 0 ∨ 2147483647 < fld l 4 then (0, 0, 0, 1) else (fld l 0, fld l 4, fld l 8, 0)) := by
          show _ = _; unfold rdTag; rw [if_neg (by simp [H16.out])]
        have HO := Lib.hid (sum_ok (some ⟨b, off, none⟩) 12 c (l.take 12) ((fld l 12 : Nat) : Int))
        clear hl12 htb htb4 hb
        generalize hsm : sumN (l.take 12) = sm at *
        clear hsm
        generalize fld l 0 = g0 at *
        generalize fld l 4 = g1 at *
        generalize fld l 8 = g2 at *
        generalize fld l 12 = g3 at *
        have u3 : IntKind.u32.wrap (g3 : Int) = (g3 : Int) := IntWalk.u32_in _ (by omega)
        go_upto_region 9 with fail
        by_cases hs : sm = g3
        · have hs1 : ((sm : Int) == (g3 : Int)) = true := by simp; omega
          have HRD2 := Lib.hid (HRD.out.trans (if_neg (by simp [hs])))
          clear hs
          go_quiet ((go_at_call 58; exact quiet_left (HO.out _ (HY.out _) HL12.out hm12)))
          by_cases hbig : 2147483647 < g0 ∨ 2147483647 < g1
          · have HRD3 := Lib.hid (HRD2.out.trans (if_pos hbig))
            by_cases hb0 : 2147483647 < g0
            · clear hbig
              go_wp2_with fail
              refine bodyPost_ret (v := tagOut (0, 0, 0, 1)) (by simp [results, Try.results33, go_sem, tagOut, r0, r1, r2]) rfl ⟨by rw [HRD3.out], ?_⟩
              exact (((below_drewN hbel nq).setCell (p := ⟨rb, 0, none⟩) hr0 _).setCell (p := ⟨rb, 1, none⟩) hr0 _).setCell (p := ⟨rb, 2, none⟩) hr0 _
            · have hb1 : 2147483647 < g1 := by omega
              clear hbig
              go_wp2_with fail
              refine bodyPost_ret (v := tagOut (0, 0, 0, 1)) (by simp [results, Try.results33, go_sem, tagOut, r0, r1, r2]) rfl ⟨by rw [HRD3.out], ?_⟩
              exact (((below_drewN hbel nq).setCell (p := ⟨rb, 0, none⟩) hr0 _).setCell (p := ⟨rb, 1, none⟩) hr0 _).setCell (p := ⟨rb, 2, none⟩) hr0 _
          · have HRD3 := Lib.hid (HRD2.out.trans (if_neg hbig))
            have hb0 : ¬ 2147483647 < g0 := by omega
            have hb1 : ¬ 2147483647 < g1 := by omega
            clear hbig
            have hb0' : g0 ≤ 2147483647 := by omega
            have hb1' : g1 ≤ 2147483647 := by omega
            have u2 : IntKind.u32.wrap (g2 : Int) = (g2 : Int) := IntWalk.u32_in _ (by omega)
            go_wp2_with fail
            refine bodyPost_ret (v := tagOut (g0, g1, g2, 0)) (by simp [results, Try.results33, go_sem, tagOut, r0, r1, r2]) rfl ⟨by rw [HRD3.out], ?_⟩
            exact (((below_drewN hbel nq).setCell (p := ⟨rb, 0, none⟩) hr0 _).setCell (p := ⟨rb, 1, none⟩) hr0 _).setCell (p := ⟨rb, 2, none⟩) hr0 _
        · have hs1 : ((sm : Int) == (g3 : Int)) = false := by simp; omega
          have HRD2 := Lib.hid (HRD.out.trans (if_pos hs))
          clear hs
          go_quiet ((go_at_call 58; exact quiet_left (HO.out _ (HY.out _) HL12.out hm12)))
          go_wp2_with fail
          refine bodyPost_ret (v := tagOut (0, 0, 0, 4)) (by simp [results, Try.results33, go_sem, tagOut, r0, r1, r2]) rfl ⟨by rw [HRD2.out], ?_⟩
          exact (((below_drewN hbel nq).setCell (p := ⟨rb, 0, none⟩) hr0 _).setCell (p := ⟨rb, 1, none⟩) hr0 _).setCell (p := ⟨rb, 2, none⟩) hr0 _
  · have hne : ((l.length : Int) != 16) = true := by simp; omega
    have HE := Lib.hid (show rdTag l = (0, 0, 0, 3) by unfold rdTag; rw [if_pos h16])
    clear h16
    go_enter Try.func33, Try.ntmps33
    go_wp2_with fail
    rw [HE.out]
    refine bodyPost_ret (v := tagOut (0, 0, 0, 3)) (by simp [results, Try.results33, go_sem, tagOut]) rfl ⟨rfl, ?_⟩
    exact (Below.refl _ _).alloc (Nat.le_refl _) _

set_option maxHeartbeats 4000000 in
theorem ref_readTag (A : Option Addr) (n c : Nat) (l : List UInt8) (w : World) (hb : Byts w A l) (hn : n = l.length) (hc : l.length ≤ c) (hl : l.length ≤ 140737488355328) :
    Calls Try.prog 34 #[.slice A n c] w fun e w' => e = .returned (tagOut (rdTag l)) ∧ Below w.heap.size w w' := by
  subst hn
  obtain ⟨w0, rfl⟩ : ∃ w0 : World, w0 = w := ⟨_, rfl⟩
  by_cases h16 : l.length = 16
  · obtain ⟨b, off, rfl, hcl⟩ := hb.at (k := 0) (by omega)
    have hbl : b < w0.heap.size := World.block_lt_of_cell? w0 _ hcl
    clear hcl
    have hlen : l.length ≤ 16 ∧ 16 ≤ l.length := by omega
    obtain ⟨hle, hge⟩ := hlen
    have h16i : ((l.length : Int) != 16) = false := by simp [h16]
    have HRD : Hid (rdTag l = if sumN (l.take 12) ≠ fld l 12 then (0, 0, 0, 4) else if 2147483647 < fld l 0 ∨ 2147483647 < fld l 4 then (0, 0, 0, 1) else (fld l 0, fld l 4, fld l 8, 0)) := by
      show _ = _; unfold rdTag; rw [if_neg (by simp [h16])]
    clear h16
    have hrb := Blk.new w0 [.int .i64 0, .int .i64 0, .int .u32 0] 46
    have hb1 := hb.alloc (.cells [.int .i64 0, .int .i64 0, .int .u32 0].toArray 46 (0, 0))
    have hbel := below_alloc w0 (.cells [.int .i64 0, .int .i64 0, .int .u32 0].toArray 46 (0, 0))
    have H0 := Lib.hid (fun w hb => ref_get' (some ⟨b, off, none⟩) l.length c l (0 : Int) 4 w (show getR l (0 : Int) 4 = _ from fld_get l 0 (by omega)) hb rfl hl (by decide) (by decide) (by decide) (by decide))
    have H4 := Lib.hid (fun w hb => ref_get' (some ⟨b, off, none⟩) l.length c l (4 : Int) 4 w (show getR l (4 : Int) 4 = _ from fld_get l 4 (by omega)) hb rfl hl (by decide) (by decide) (by decide) (by decide))
    have H8 := Lib.hid (fun w hb => ref_get' (some ⟨b, off, none⟩) l.length c l (8 : Int) 4 w (show getR l (8 : Int) 4 = _ from fld_get l 8 (by omega)) hb rfl hl (by decide) (by decide) (by decide) (by decide))
    have H12 := Lib.hid (fun w hb => ref_get' (some ⟨b, off, none⟩) l.length c l (12 : Int) 4 w (show getR l (12 : Int) 4 = _ from fld_get l 12 (by omega)) hb rfl hl (by decide) (by decide) (by decide) (by decide))
    have hl12 : 12 = (l.take 12).length := by rw [List.length_take]; omega
    have HL12 := Lib.hid hl12
    have hm12 : (l.take 12).length ≤ maxLen := by unfold maxLen; rw [List.length_take]; omega
    have hc0 : ¬ c = 0 := by omega
    have hc12 : 12 ≤ c := by omega
    have hg0 := fld_lt l 0
    have hg1 := fld_lt l 4
    have hg2 := fld_lt l 8
    have hg3 := fld_lt l 12
    have HO := Lib.hid (ref_sum (some ⟨b, off, none⟩) 12 c (l.take 12))
    clear hl12 hb
    generalize hsm : sumN (l.take 12) = sm at *
    clear hsm
    generalize fld l 0 = g0 at *
    generalize fld l 4 = g1 at *
    generalize fld l 8 = g2 at *
    generalize fld l 12 = g3 at *
    have u3 : IntKind.u32.wrap (g3 : Int) = (g3 : Int) := IntWalk.u32_in _ (by omega)
    go_enter Try.func34, Try.ntmps34
    go_upto_region 3 with fail
    obtain ⟨w1, hw1⟩ : ∃ w1, w1 = w0.alloc (.cells #[.int .i64 0, .int .i64 0, .int .u32 0] 46) := ⟨_, rfl⟩
    rw [← hw1]
    change Blk (w0.alloc (.cells #[.int .i64 0, .int .i64 0, .int .u32 0] 46)) _ _ _ at hrb
    change Byts (w0.alloc (.cells #[.int .i64 0, .int .i64 0, .int .u32 0] 46)) _ _ at hb1
    change Below _ _ (w0.alloc (.cells #[.int .i64 0, .int .i64 0, .int .u32 0] 46)) at hbel
    rw [← hw1] at hrb hb1 hbel
    clear hw1
    obtain ⟨rb, hre⟩ : ∃ r, r = w0.heap.size := ⟨_, rfl⟩
    rw [← hre] at hrb ⊢
    have hr0 : w0.heap.size ≤ rb := by omega
    clear hre
    have hr1 := hrb
    have hl1 := hbel
    clear hrb hbel
    go_upto_region 4 with (go_at_call 59; go_must (refine (H0.out _ hb1).mono ?_); rintro e v2 ⟨rfl, hw2⟩; have HW2 := Lib.hid hw2; clear hw2)
    have hb2 : Byts v2 (some ⟨b, off, none⟩) l := by obtain ⟨m, rfl⟩ := HW2.out; exact hb1.drewN m
    have hr2 : Blk v2 rb 46 [.int .i64 0, .int .i64 0, .int .u32 0] := by obtain ⟨m, rfl⟩ := HW2.out; exact hr1.drewN m
    have hl2 : Below w0.heap.size w0 v2 := by obtain ⟨m, rfl⟩ := HW2.out; exact below_drewN hl1 m
    clear HW2 hb1 hr1 hl1
    go_upto_region 5 with (go_at_call 59; go_must (refine (H4.out _ hb2).mono ?_); rintro e v3 ⟨rfl, hw3⟩; have HW3 := Lib.hid hw3; clear hw3)
    have hb3 : Byts v3 (some ⟨b, off, none⟩) l := by obtain ⟨m, rfl⟩ := HW3.out; exact hb2.drewN m
    have hr3 : Blk v3 rb 46 [.int .i64 0, .int .i64 0, .int .u32 0] := by obtain ⟨m, rfl⟩ := HW3.out; exact hr2.drewN m
    have hl3 : Below w0.heap.size w0 v3 := by obtain ⟨m, rfl⟩ := HW3.out; exact below_drewN hl2 m
    clear HW3 hb2 hr2 hl2
    go_upto_region 6 with (go_at_call 59; go_must (refine (H8.out _ hb3).mono ?_); rintro e v4 ⟨rfl, hw4⟩; have HW4 := Lib.hid hw4; clear hw4)
    have hb4 : Byts v4 (some ⟨b, off, none⟩) l := by obtain ⟨m, rfl⟩ := HW4.out; exact hb3.drewN m
    have hr4 : Blk v4 rb 46 [.int .i64 0, .int .i64 0, .int .u32 0] := by obtain ⟨m, rfl⟩ := HW4.out; exact hr3.drewN m
    have hl4 : Below w0.heap.size w0 v4 := by obtain ⟨m, rfl⟩ := HW4.out; exact below_drewN hl3 m
    clear HW4 hb3 hr3 hl3
    go_upto_region 7 with (go_at_call 59; go_must (refine (H12.out _ hb4).mono ?_); rintro e v5 ⟨rfl, hw5⟩; have HW5 := Lib.hid hw5; clear hw5)
    have hb5 : Byts v5 (some ⟨b, off, none⟩) l := by obtain ⟨m, rfl⟩ := HW5.out; exact hb4.drewN m
    have hr5 : Blk v5 rb 46 [.int .i64 0, .int .i64 0, .int .u32 0] := by obtain ⟨m, rfl⟩ := HW5.out; exact hr4.drewN m
    have hl5 : Below w0.heap.size w0 v5 := by obtain ⟨m, rfl⟩ := HW5.out; exact below_drewN hl4 m
    clear HW5 hb4 hr4 hl4
    have hbel := hl5
    have r0 := hr5.cell 0 _ rfl
    have r1 := hr5.cell 1 _ rfl
    have r2 := hr5.cell 2 _ rfl
    have q0 := hr5.frz 0
    have q1 := hr5.frz 1
    have q2 := hr5.frz 2
    have ht12 := hb5.take 12
    have hrl := hr5.lt
    have hrne : rb ≠ v5.heap.size := by omega
    have hrn2 : ¬ v5.heap.size = rb := by omega
    by_cases hs : sm = g3
    · have hs1 : ((g3 : Int) != (sm : Int)) = false := by simp; omega
      have HRD2 := Lib.hid (HRD.out.trans (if_neg (by simp [hs])))
      clear hs
      go_upto_region 9 with (go_at_call 38; refine (HO.out _ ht12 HL12.out hm12).mono ?_; rintro e w' ⟨rfl, rfl⟩)
      have W0 := Lib.hid (fun w => rtag_within (g0 : Int) w (by omega) (by omega))
      have W1 := Lib.hid (fun w => rtag_within (g1 : Int) w (by omega) (by omega))
      have u2 : IntKind.u32.wrap (g2 : Int) = (g2 : Int) := IntWalk.u32_in _ (by omega)
      by_cases hb0 : 2147483647 < g0
      · have HRD3 := Lib.hid (HRD2.out.trans (if_pos (Or.inl hb0)))
        have e0 : wth (g0 : Int) = false := by unfold wth; simp; omega
        go_wp2_with (first
          | (go_at_call 55; (with_reducible refine (W0.out _).mono ?_); rintro e w' ⟨rfl, rfl⟩)
          | (go_at_call 55; (with_reducible refine (W1.out _).mono ?_); rintro e w' ⟨rfl, rfl⟩))
        have k := (((hr5.set 0 (.int .i64 0)).set 1 (.int .i64 0)).set 2 (.int .u32 0)).alloc (.cells #[.int .i64 (g0 : Int), .int .i64 (g1 : Int), .int .u32 (g2 : Int)] 46)
        refine bodyPost_ret (v := tagOut (0, 0, 0, 1)) (by simp [results, Try.results34, go_sem, tagOut, k.cell 0 _ rfl, k.cell 1 _ rfl, k.cell 2 _ rfl]) rfl ⟨by rw [HRD3.out], ?_⟩
        exact ((((hbel.setCell (p := ⟨rb, 0, none⟩) hr0 _).setCell (p := ⟨rb, 1, none⟩) hr0 _).setCell (p := ⟨rb, 2, none⟩) hr0 _).alloc (by have := hbel.size; simp [World.setCell]; omega) _)
      · by_cases hb1 : 2147483647 < g1
        · have HRD3 := Lib.hid (HRD2.out.trans (if_pos (Or.inr hb1)))
          have e0 : wth (g0 : Int) = true := by unfold wth; simp; omega
          have e1 : wth (g1 : Int) = false := by unfold wth; simp; omega
          go_wp2_with (first
          | (go_at_call 55; (with_reducible refine (W0.out _).mono ?_); rintro e w' ⟨rfl, rfl⟩)
          | (go_at_call 55; (with_reducible refine (W1.out _).mono ?_); rintro e w' ⟨rfl, rfl⟩))
          have k := (((hr5.set 0 (.int .i64 0)).set 1 (.int .i64 0)).set 2 (.int .u32 0)).alloc (.cells #[.int .i64 (g0 : Int), .int .i64 (g1 : Int), .int .u32 (g2 : Int)] 46)
          refine bodyPost_ret (v := tagOut (0, 0, 0, 1)) (by simp [results, Try.results34, go_sem, tagOut, k.cell 0 _ rfl, k.cell 1 _ rfl, k.cell 2 _ rfl]) rfl ⟨by rw [HRD3.out], ?_⟩
          exact ((((hbel.setCell (p := ⟨rb, 0, none⟩) hr0 _).setCell (p := ⟨rb, 1, none⟩) hr0 _).setCell (p := ⟨rb, 2, none⟩) hr0 _).alloc (by have := hbel.size; simp [World.setCell]; omega) _)
        · have HRD3 := Lib.hid (HRD2.out.trans (if_neg (by omega)))
          have e0 : wth (g0 : Int) = true := by unfold wth; simp; omega
          have e1 : wth (g1 : Int) = true := by unfold wth; simp; omega
          go_wp2_with (first
          | (go_at_call 55; (with_reducible refine (W0.out _).mono ?_); rintro e w' ⟨rfl, rfl⟩)
          | (go_at_call 55; (with_reducible refine (W1.out _).mono ?_); rintro e w' ⟨rfl, rfl⟩))
          have k := (((hr5.set 0 (.int .i64 (g0 : Int))).set 1 (.int .i64 (g1 : Int))).set 2 (.int .u32 (g2 : Int))).alloc (.cells #[.int .i64 (g0 : Int), .int .i64 (g1 : Int), .int .u32 (g2 : Int)] 46)
          refine bodyPost_ret (v := tagOut (g0, g1, g2, 0)) (by simp [results, Try.results34, go_sem, tagOut, k.cell 0 _ rfl, k.cell 1 _ rfl, k.cell 2 _ rfl]) rfl ⟨by rw [HRD3.out], ?_⟩
          exact ((((hbel.setCell (p := ⟨rb, 0, none⟩) hr0 _).setCell (p := ⟨rb, 1, none⟩) hr0 _).setCell (p := ⟨rb, 2, none⟩) hr0 _).alloc (by have := hbel.size; simp [World.setCell]; omega) _)
    · have hs1 : ((g3 : Int) != (sm : Int)) = true := by simp; omega
      have HRD2 := Lib.hid (HRD.out.trans (if_pos hs))
      clear hs
      go_wp2_with (go_at_call 38; refine (HO.out _ ht12 HL12.out hm12).mono ?_; rintro e w' ⟨rfl, rfl⟩)
      refine bodyPost_ret (v := tagOut (0, 0, 0, 4)) (by simp [results, Try.results34, go_sem, tagOut, r0, r1, r2]) rfl ⟨by rw [HRD2.out], ?_⟩
      exact ((hbel.setCell (p := ⟨rb, 0, none⟩) hr0 _).setCell (p := ⟨rb, 1, none⟩) hr0 _).setCell (p := ⟨rb, 2, none⟩) hr0 _
  · have hne : ((l.length : Int) != 16) = true := by simp; omega
    have HE := Lib.hid (show rdTag l = (0, 0, 0, 3) by unfold rdTag; rw [if_pos h16])
    clear h16
    go_enter Try.func34, Try.ntmps34
    go_wp2_with fail
    refine bodyPost_ret (v := tagOut (0, 0, 0, 3)) (by simp [results, Try.results34, go_sem, tagOut]) rfl ⟨by rw [HE.out], ?_⟩
    exact (Below.refl _ _).alloc (Nat.le_refl _) _

end Go.Proofs.Ytdieeleaaejfhaa
