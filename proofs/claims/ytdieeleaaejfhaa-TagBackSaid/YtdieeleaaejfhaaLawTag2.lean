/- The walk of TagBack. -/
import Derived.Test.YtdieeleaaejfhaaLawTag
set_option linter.unusedVariables false
set_option maxRecDepth 100000
namespace Go.Proofs.Ytdieeleaaejfhaa
open Go.RowKit

/-- So many bytes 255, ahead of bytes 0. -/
def filled (n k : Nat) : List UInt8 := List.replicate k 255 ++ List.replicate (n - k) 0
theorem filled_length (n k : Nat) (h : k ≤ n) : (filled n k).length = n := by simp [filled]; omega
theorem filled_set (n k : Nat) (h : k < n) : (filled n k).set k 255 = filled n (k + 1) := by
  unfold filled
  rw [List.set_append_right _ _ (by simp), List.length_replicate, Nat.sub_self]
  have e : n - k = (n - (k + 1)) + 1 := by omega
  rw [e, List.replicate_succ, List.set_cons_zero, List.replicate_succ']
  simp

set_option maxHeartbeats 8000000 in
theorem tagBack_walk {w : World} (no : Int) (wno : (Lit.int .i64 no).wf = true) (ix : Int) (wix : (Lit.int .i64 ix).wf = true)
    (A : Option Addr) (c : Nat) (l : List UInt8) (hcap : l.length ≤ c ∧ c ≤ maxLen) (hb : Byts w A l) (hl : l.length ≤ 140737488351232)
    (A' : Option Addr) (c' : Nat) (l' : List UInt8) (hcap' : l'.length ≤ c' ∧ c' ≤ maxLen) (hb' : Byts w A' l') (hl' : l'.length ≤ 140737488351232)
    (at' : Int) (wat : (Lit.int .i64 at').wf = true) (by' : Int) (wby : (Lit.int .u8 by').wf = true) :
    Calls Try.prog 7 #[.int .i64 no, .int .i64 ix, .slice A l.length c, .slice A' l'.length c', .int .i64 at', .int .u8 by'] w fun e w' => e = .returned (.bool true) ∧ Below w.heap.size w w' := by
  obtain ⟨w0, rfl⟩ : ∃ w0 : World, w0 = w := ⟨_, rfl⟩
  obtain ⟨y, rfl⟩ := byte_of (wf_u8 wby)
  clear wno wix wat wby hcap hcap'
  have hs0 := Nat.le_refl w0.heap.size
  by_cases h1 : 300 < l.length
  · go_enter Try.func7, Try.ntmps7
    go_wp2_with (go_at_call 30; refine (awake06 _).mono ?_; rintro e w' ⟨rfl, hb2⟩)
    go_ret
    exact ⟨rfl, hb2⟩
  by_cases h2 : 300 < l'.length
  · go_enter Try.func7, Try.ntmps7
    go_wp2_with (go_at_call 30; refine (awake06 _).mono ?_; rintro e w' ⟨rfl, hb2⟩)
    go_ret
    exact ⟨rfl, hb2⟩
  obtain ⟨a, ha, hal⟩ : ∃ i : Nat, wrap64 ((IntKind.u64.wrap no).tmod 2147483648) = (i : Int) ∧ i < 2147483648 := mod_len no 2147483648 (by decide) (by decide)
  obtain ⟨b, hbe, hbl⟩ : ∃ i : Nat, wrap64 ((IntKind.u64.wrap ix).tmod 2147483648) = (i : Int) ∧ i < 2147483648 := mod_len ix 2147483648 (by decide) (by decide)
  obtain ⟨p, hp, hpl⟩ : ∃ i : Nat, wrap64 ((IntKind.u64.wrap at').tmod 16) = (i : Int) ∧ i < 16 := mod_len at' 16 (by decide) (by decide)
  have HA := Lib.hid ha
  have HB := Lib.hid hbe
  have HP := Lib.hid hp
  clear ha hbe hp
  have hlm : l.length ≤ maxLen := by unfold maxLen; omega
  have hlm' : l'.length ≤ maxLen := by unfold maxLen; omega
  have hm := sumN_lt l
  have hm' := sumN_lt l'
  have HO1 := Lib.hid (fun w hb => tag_of (a : Int) (b : Int) A l.length c l w hb rfl hlm)
  have HO2 := Lib.hid (fun w hb => tag_of (a : Int) (b : Int) A' l'.length c' l' w hb rfl hlm')
  have HS1 := Lib.hid (fun w hb => ref_sum A l.length c l w hb rfl hlm)
  have HS2 := Lib.hid (fun w hb => ref_sum A' l'.length c' l' w hb rfl hlm')
  generalize sumN l = s at *
  generalize sumN l' = s' at *
  go_enter Try.func7, Try.ntmps7
  go_upto_region 4 with fail
  rw [HA.out, HB.out]
  go_upto_region 5 with (go_at_call 35; go_must (refine (HO1.out _ hb).mono ?_); rintro e w1 ⟨rfl, hb1⟩)
  have hk1 := Blk.new w1 [.int .i64 (a : Int), .int .i64 (b : Int), .int .u32 (s : Int)] 46
  have hb1' := hb1.alloc hb1.size (.cells [.int .i64 (a : Int), .int .i64 (b : Int), .int .u32 (s : Int)].toArray 46 (0, 0))
  generalize w1.alloc (.cells [.int .i64 (a : Int), .int .i64 (b : Int), .int .u32 (s : Int)].toArray 46 (0, 0)) = w2 at *
  generalize w1.heap.size = t1 at *
  have hs2 := hb1'.size
  clear hb1
  have c0 := hk1.cell 0 _ rfl
  have c1 := hk1.cell 1 _ rfl
  have c2 := hk1.cell 2 _ rfl
  go_upto_region 6 with (go_at_call 31; go_must (refine (tag_write_ok a b s _ hal hbl hm).mono ?_); rintro e w3 ⟨A3, e3, L, rfl, HL, hc3, hown3, -, l3, m3, hb3⟩)
  clear c0 c1 c2
  have hk3 := hk1.only (Only.of_below hb3 []) (by simp)
  have hbel3 := hb1'.trans (hb3.mono hb1'.size)
  clear hk1 hb1' hb3
  go_upto_region 8 with (go_at_call 30; refine (awake06 _).mono ?_; rintro e w4 ⟨rfl, hb4⟩)
  have hk4 := hk3.only (Only.of_below hb4 []) (by simp)
  have hown4 := hown3.below hb4
  have hbel4 := hbel3.trans (hb4.mono hbel3.size)
  clear hk3 hown3 hbel3 hb4
  have hl16 : L.length = 16 := by omega
  obtain ⟨g, e3', he3, hc3', hgB, hgl, hcl, hfz⟩ := hown4.form (by omega)
  rw [hl16] at he3
  cases he3
  have hrd : rdTag L = (a, b, s, 0) := by rw [HL.out]; exact rd_tagAll a b s (by omega) (by omega) hm
  have HR1 := Lib.hid (tag_read' (some ⟨g, 0, none⟩) 16 e3 L w4 hrd hown4.read (by omega) (by omega) (by omega))
  go_upto_region 9 with (go_at_call 33; go_must (refine HR1.out.mono ?_); rintro e w5 ⟨rfl, hb5⟩)
  clear HR1
  have hk6 := Blk.new w5 [.int .i64 (a : Int), .int .i64 (b : Int), .int .u32 (s : Int)] 46
  have hb6 := hb5.alloc hb5.size (.cells [.int .i64 (a : Int), .int .i64 (b : Int), .int .u32 (s : Int)].toArray 46 (0, 0))
  generalize w5.alloc (.cells [.int .i64 (a : Int), .int .i64 (b : Int), .int .u32 (s : Int)].toArray 46 (0, 0)) = w6 at *
  have ht6 : g ≠ w5.heap.size := by have := hb5.size; omega
  have ht1 : g ≠ t1 := by
    intro e
    subst e
    have h3 := hk4.cell 0 _ rfl
    have h4 := hcl 0 (by omega)
    rw [h3] at h4
    cases h4
  generalize w5.heap.size = t6 at *
  have hk16 := hk4.only (Only.of_below hb6 []) (by simp)
  have hown6 := hown4.below hb6
  have hbel6 := hbel4.trans (hb6.mono hbel4.size)
  clear hk4 hown4 hbel4 hb5 hb6 hcl hfz
  go_upto_region 10 with fail
  rw [HP.out]
  have hcp := hown6.cell (i := p) (by omega)
  have hfp := hown6.frz p
  have hset := hown6.set p (L[p] ^^^ y)
  have hx := xor_u8 L[p] y
  obtain ⟨L', hL'⟩ : ∃ L', L.set p (L[p] ^^^ y) = L' := ⟨_, rfl⟩
  have hl'16 : L'.length = 16 := by rw [← hL', List.length_set, hl16]
  have hrd0 : y = 0 → rdTag L' = (a, b, s, 0) := fun h => by rw [← hL', h, (xor_ne _ _).2 rfl, List.set_getElem_self, hrd]
  have hrd4 : y ≠ 0 → (rdTag L').2.2.2 = 4 := fun h => by
    rw [← hL']
    refine rd_turned L hl16 ?_ p (by omega) y h
    have h5 := tagAll_flds a b s (by omega) (by omega) hm
    rw [HL.out, tagAll_head, h5.2.2.2]
  rw [hL'] at hset
  clear hL' hrd
  obtain ⟨ea, eb, es, ee, hrd⟩ : ∃ a b s e, rdTag L' = (a, b, s, e) := ⟨_, _, _, _, rfl⟩
  have hee : ((ee : Int) == 0) = ((y.toNat : Int) == 0) := by
    by_cases hy : y = 0
    · have := hrd0 hy
      rw [hrd] at this
      simp at this
      rw [this.2.2.2, hy]
      rfl
    · have := hrd4 hy
      rw [hrd] at this
      simp only at this
      rw [this]
      have h6 : y.toNat ≠ 0 := fun h => hy (UInt8.toNat_inj.1 (by simpa using h))
      have h7 : ((y.toNat : Int) == 0) = false := by simpa using h6
      rw [h7]
      rfl
  have HEE := Lib.hid hee
  clear hrd0 hrd4 hee
  obtain ⟨z, hz⟩ : ∃ z, L[p] ^^^ y = z := ⟨_, rfl⟩
  rw [hz] at hset hx
  clear hz
  generalize L[p] = u at *
  have hk7 := hk16.set_other (p := ⟨g, p, none⟩) (Ne.symm ht1) (.int .u8 (z.toNat : Int))
  have hk67 := hk6.set_other (p := ⟨g, p, none⟩) (Ne.symm ht6) (.int .u8 (z.toNat : Int))
  have hbel7 := hbel6.setCell (p := ⟨g, p, none⟩) (Nat.le_trans hs2 hgB) (.int .u8 (z.toNat : Int))
  clear hk16 hk6 hbel6 hown6
  go_upto_region 11 with fail
  generalize w6.setCell ⟨g, p, none⟩ (.int .u8 (z.toNat : Int)) = w7 at *
  clear hcp hfp hx
  have HR1 := Lib.hid (tag_read' (some ⟨g, 0, none⟩) 16 e3 L' w7 hrd hset.read (by omega) (by omega) (by omega))
  clear hrd
  go_upto_region 12 with (go_at_call 33; go_must (refine HR1.out.mono ?_); rintro e w8 ⟨rfl, hb8⟩)
  clear HR1
  have hb9 := hb8.alloc hb8.size (.cells [.int .i64 (ea : Int), .int .i64 (eb : Int), .int .u32 (es : Int)].toArray 46 (0, 0))
  generalize w8.alloc (.cells [.int .i64 (ea : Int), .int .i64 (eb : Int), .int .u32 (es : Int)].toArray 46 (0, 0)) = w9 at *
  generalize w8.heap.size = t9 at *
  have hk9 := hk7.only (Only.of_below hb9 []) (by simp)
  have hk69 := hk67.only (Only.of_below hb9 []) (by simp)
  have hbel9 := hbel7.trans (hb9.mono hbel7.size)
  clear hk7 hk67 hbel7 hb8 hb9 hset
  have hmk : ∀ w, (Instr.makeSlice 43 (.int .i64 16) (.int .i64 16)).run Try.prog w = .ok (.slice (some ⟨w.heap.size, 0, none⟩) 16 16) (w.alloc (.cells (zsN 16).toArray 5 (0, 0))) := run_make_zs 16 (by decide)
  go_upto_region 13 with fail
  have hz0 : Own (w9.alloc (.cells (zsN 16).toArray 5 (0, 0))) w9.heap.size (.slice (some ⟨w9.heap.size, 0, none⟩) 16 16) (filled 16 0) := own_zs 16 (by decide) w9 _ (Nat.le_refl _)
  have hk10 := hk9.alloc (.cells (zsN 16).toArray 5 (0, 0))
  have hk610 := hk69.alloc (.cells (zsN 16).toArray 5 (0, 0))
  have hbel10 := hbel9.alloc hbel9.size (.cells (zsN 16).toArray 5 (0, 0))
  have h9s := hbel9.size
  have ht1l := hk9.lt
  have ht6l := hk69.lt
  generalize w9.alloc (.cells (zsN 16).toArray 5 (0, 0)) = w10 at *
  generalize w9.heap.size = g2 at *
  clear hk9 hk69 hbel9 hmk
  go_upto_region 14 with fail
  go_loopw [88] (fun v88 wr => ∃ k : Nat, k ≤ 16 ∧ v88 = .int .i64 (k : Int) ∧ Own wr g2 (.slice (some ⟨g2, 0, none⟩) 16 16) (filled 16 k) ∧ Blk wr t1 46 [.int .i64 (a : Int), .int .i64 (b : Int), .int .u32 (s : Int)] ∧ Blk wr t6 46 [.int .i64 (a : Int), .int .i64 (b : Int), .int .u32 (s : Int)] ∧ Below w0.heap.size w0 wr) (fun v88 _ => 16 - (intOf v88).toNat)
  case atStart => exact ⟨0, by omega, rfl, hz0, hk10, hk610, hbel10⟩
  case round =>
    clear hz0 hk10 hk610 hbel10
    obtain ⟨k, hk, rfl, hz, hj, hj6, hbel⟩ := hrel
    by_cases hlt : k < 16
    · have hfl := filled_length 16 k hk
      have hcp := hz.cell (i := k) (by omega)
      have hfp := hz.frz k
      have hset := hz.set k 255
      rw [filled_set 16 k hlt] at hset
      generalize (filled 16 k)[k]'(by omega) = o at *
      have hm1 := hj.set_other (p := ⟨g2, k, none⟩) (by show t1 ≠ g2; omega) (.int .u8 ((255 : UInt8).toNat : Int))
      have hm2 := hj6.set_other (p := ⟨g2, k, none⟩) (by show t6 ≠ g2; omega) (.int .u8 ((255 : UInt8).toNat : Int))
      have hm3 := hbel.setCell (p := ⟨g2, k, none⟩) h9s (.int .u8 ((255 : UInt8).toNat : Int))
      clear hz hj hj6 hbel hfl
      go_wp2_with fail
      go_roundw
      case rel => exact ⟨k + 1, by omega, by go_num, hset, hm1, hm2, hm3⟩
      case measure => simp [intOf]; omega
    · obtain rfl : k = 16 := by omega
      have hrb : rdTag (filled 16 16) = (0, 0, 0, 4) := rd_blank
      have HR1 := Lib.hid (tag_read' (some ⟨g2, 0, none⟩) 16 16 (filled 16 16) wr hrb hz.read (by rw [filled_length 16 16 (by omega)]) (by rw [filled_length 16 16 (by omega)]; omega) (by rw [filled_length 16 16 (by omega)]; omega))
      go_upto_region 19 with (go_at_call 33; go_must (refine HR1.out.mono ?_); rintro e w11 ⟨rfl, hb11⟩)
      have hb12 := hb11.alloc hb11.size (.cells [.int .i64 0, .int .i64 0, .int .u32 0].toArray 46 (0, 0))
      have hm1 := hj.only (Only.of_below hb12 []) (by simp)
      have hm2 := hj6.only (Only.of_below hb12 []) (by simp)
      have hbel12 := hbel.trans (hb12.mono hbel.size)
      have hr1 := hb.below hbel12
      have hr2 := hb'.below hbel12
      clear hz hj hj6 hbel hb11 hb12 HR1 hrb
      generalize w11.alloc (.cells [.int .i64 0, .int .i64 0, .int .u32 0].toArray 46 (0, 0)) = w12 at *
      generalize w11.heap.size = t12 at *
      have c0 := hm1.cell 0 _ rfl
      have c1 := hm1.cell 1 _ rfl
      have c2 := hm1.cell 2 _ rfl
      have d0 := hm2.cell 0 _ rfl
      have d1 := hm2.cell 1 _ rfl
      have d2 := hm2.cell 2 _ rfl
      have h1l := hm1.lt
      have h6l := hm2.lt
      have hC : Below w12.heap.size w12 w12.drew := (Below.refl _ _).drew
      have hfd : ∀ (x y z : Int) (w : World), (Instr.field 46 (.agg #[.int .i64 x, .int .i64 y, .int .u32 z]) 2).run Try.prog w = .ok (.int .u32 z) w := fun _ _ _ _ => by kernel_rfl
      obtain ⟨qq, hqq⟩ : ∃ q : Bool, ((s : Int) == (s' : Int)) = q := ⟨_, rfl⟩
      obtain ⟨qe, hqe⟩ : ∃ q : Bool, ((ee : Int) == 0) = q := ⟨_, rfl⟩
      have hqy : ((y.toNat : Int) == 0) = qe := HEE.out.symm.trans hqe
      have s1 : (qq == qq) = true := by simp
      have s2 : (qe == qe) = true := by simp
      go_region_held3 (fun w' => w'.cell? ⟨t1, 0, none⟩ = some (.int .i64 (a : Int)) ∧ w'.cell? ⟨t1, 1, none⟩ = some (.int .i64 (b : Int)) ∧ w'.cell? ⟨t1, 2, none⟩ = some (.int .u32 (s : Int)) ∧ w'.cell? ⟨t6, 0, none⟩ = some (.int .i64 (a : Int)) ∧ w'.cell? ⟨t6, 1, none⟩ = some (.int .i64 (b : Int)) ∧ w'.cell? ⟨t6, 2, none⟩ = some (.int .u32 (s : Int)))
        (exact ⟨(hC.cell (p := ⟨t1, 0, none⟩) h1l).trans c0, (hC.cell (p := ⟨t1, 1, none⟩) h1l).trans c1, (hC.cell (p := ⟨t1, 2, none⟩) h1l).trans c2, (hC.cell (p := ⟨t6, 0, none⟩) h6l).trans d0, (hC.cell (p := ⟨t6, 1, none⟩) h6l).trans d1, (hC.cell (p := ⟨t6, 2, none⟩) h6l).trans d2⟩)
        (first
          | (go_at_call 35; refine (HO2.out _ (hr2.below hC)).mono ?_; rintro e wa ⟨rfl, hba⟩; have hCa := hC.trans (hba.mono hC.size); clear hC hba; have hC := hCa; clear hCa)
          | (go_at_call 38; (with_reducible refine (HS1.out _ (hr1.below hC)).mono ?_); rintro e w' ⟨rfl, rfl⟩)
          | (go_at_call 38; (with_reducible refine (HS2.out _ (hr2.below hC)).mono ?_); rintro e w' ⟨rfl, rfl⟩))
      go_wp2_with fail
      go_ret
      exact ⟨by simp, hbel12.trans (hC.mono hbel12.size)⟩
end Go.Proofs.Ytdieeleaaejfhaa
